/-
  The abstract machine: regions, code, calls.
-/
import Derived.Test.YtdknlbnljfdhgaaGreatDoorAmOps
noncomputable section
namespace Go.Am
open Go
set_option linter.unusedSimpArgs false
set_option linter.unusedVariables false
def av.app{α:Type}(a b:av α):av α:=
 match a with
 | .err n=>.err n
 | .ok x xs=>match b with
  | .err n=>.err n
  | .ok y ys=>.ok x (fH xs (y::ys))
def av.bind{α β:Type}(r:av α)(f:α->av β):av β:=
 match r with
 | .err n=>.err n
 | .ok x xs=>match xs with
  |[]=>f x
  |y::ys=>av.app (f x) (List.rec (motive:=fun _=>α->av β) (fun y=>f y) (fun z _ ih y=>av.app (f y) (ih z)) ys y)
def av.yD{α:Type}(r:av α):av α:=
 match r with
 | .ok x []=>.ok x []
 | .ok _ _=>.err 1005
 | .err n=>.err n
def wanted(ops:List Oper)(F:Fr)(o:Oper):Option Bool:=
 match o.guard with
 |none=>some true
 |some (j,want)=>match nth j ops with
  |some p=>match p.dst with
   |some d=>match F.t.get d with
    |some (.bool b)=>some (cond want b (!b))
    |some .top=>none
    |_=>some false
   |none=>some false
  |none=>some false
def putT(d:Tmp)(v:AV)(F:Fr):Fr:=@Fr.rec (fun _=>Fr) (fun t n ds=>@Bool.rec (fun _=>Fr) ⟨t,n,ds⟩ ⟨t.set d v,n,ds⟩ (Nat.ble (Nat.succ d) n)) F
def bG(F:Fr)(dst:Option Tmp)(v:AV):Fr:=@Option.rec Tmp (fun _=>AV->Fr->Fr) (fun _ F=>F) putT dst v F
theorem jz(F:Fr)(d:Tmp)(v:AV):bG F (some d) v=cond (Nat.blt d F.n) ⟨F.t.set d v,F.n,F.ds⟩ F:=by
 obtain⟨t,n,ds⟩:=F;show @Bool.rec (fun _=>Fr) ⟨t,n,ds⟩ ⟨t.set d v,n,ds⟩ (Nat.blt d n)=cond (Nat.blt d n) ⟨t.set d v,n,ds⟩ ⟨t,n,ds⟩;cases Nat.blt d n<;>rfl
inductive Tgt where
 |fn (f:FuncId)
 |round (id:Nat)
abbrev eW:=Tgt->List AV->AS->av (AV×AS)
def rD{β:Type}(v:AV)(p:AV->β)(k:β):β:=match v with | .dP x=>p x|_=>k
def retR(r:AV×AS):av (Bool×AV×AS):=rD r.1 (fun x=>.ok (true,x,r.2) []) (.ok (false,r.1,r.2) [])
def valR(r:AV×AS):Bool×AV×AS:=(false,r.1,r.2)
def manyR(l:List (AV×AS)):av (Bool×AV×AS):=match l with|[]=>.err 1008|x::xs=>.ok (valR x) (xs.map valR)
def one(cx:Cx)(K:eW)(ops:List Oper)(o:Oper)(F:Fr)(S:AS):av (Bool×AV×AS):=
 match wanted ops F o with
 |some true=>match bj cx F S o with
  | .val v S=>.ok (false,v,S) []
  | .enter f as S=>av.bind (K (.fn f) as S) retR
  | .round id as S=>av.bind (K (.round id) as S) retR
  | .dP v S=>.ok (true,v,S) []
  | .many l=>manyR l
  | .err n=>.err n
 |some false=>.ok (false,.undef,S) []
 |none=>.err 1000
def gM(F:Fr)(c:Call):Option sa:=
 match c.callee with
 | .value f=>match eval F f with
  | .func (.func g) first captured=>some (.call g (fH first (args F c.args)) captured)
  |_=>none
 |_=>none
def cM(o:Oper):Option Call:=match o.op with | .defer c=>some c|_=>none
def cY(cx:Cx)(K:eW)(ops:List Oper)(l:List Oper):Fr->AS->av (Option AV×Fr×AS):=
 List.rec (motive:=fun _=>Fr->AS->av (Option AV×Fr×AS)) (fun F S=>.ok (none,F,S) [])
  (fun o _ ih F S=>match cM o with
   |none=>av.bind (one cx K ops o F S) fun r=>cond r.1 (.ok (some r.2.1,F,r.2.2) []) (ih (bG F o.dst r.2.1) r.2.2)
   |some c=>match wanted ops F o with
    |some true=>match gM F c with
     |some d=>ih (bG ⟨F.t,F.n,d::F.ds⟩ o.dst .undef) S
     |none=>.err 1009
    |some false=>ih (bG F o.dst .undef) S
    |none=>.err 1010) l
inductive Cls where
 |pure|read|yV|fresh
def fY(cx:Cx)(o:Oper):Cls:=
 match o.op with
 | .move _=>.pure | .assign _=>.pure | .pick ..=>.pure | .build ..=>.pure | .nilCheck _=>.pure | .unOp ..=>.pure
 | .binOp ..=>.pure | .makeInterface ..=>.pure | .makeFunc ..=>.pure | .slice ..=>.pure | .fieldAddr ..=>.pure | .field ..=>.pure
 | .indexAddr ..=>.pure | .index ..=>.pure | .extract ..=>.pure | .typeAssert ..=>.pure
 | .load _ (.global _)=>.pure
 | .load ..=>.read | .lookup ..=>.read
 | .alloc _=>.fresh | .box ..=>.fresh | .buildSlice ..=>.fresh | .makeMap ..=>.fresh | .makeSlice ..=>.fresh
 | .convert _ dst _=>match bC cx dst with
  |some (.int _)=>.pure
  |some .string=>.read
  |_=>.yV
 | .call {callee:=.builtin .len,.. }=>.read
 | .call {callee:=.builtin .cap,.. }=>.pure
 | .call {callee:=.builtin .min,.. }=>.pure
 | .call {callee:=.builtin .max,.. }=>.pure
 |_=>.yV
def bK:Cls->Bool | .yV=>true|_=>false
def bQ:Cls->Bool | .fresh=>true|_=>false
def eO:Cls->Bool | .read=>true|_=>false
def befL(ops:List Oper):List Nat:=
 (List.rec (motive:=fun _=>List Nat->List Nat) (fun acc=>acc)
  (fun o _ ih acc=>ih (fH acc [List.foldl (fun s (e:Edge)=>match e.ground with
   | .textOnly _=>s
   | .gcOnly _=>s
   |_=>fS (Nat.lor s (Nat.lor (Nat.pow 2 e.on) (match nth e.on acc with|some m=>m|none=>0))) fun n=>n) 0 o.after.toList])) ops) []
def bit(m i:Nat):Bool:=Nat.beq (Nat.mod (Nat.div m (Nat.pow 2 i)) 2) 1
structure Row where
 o:Oper
 dL:Nat
 cls:Cls
 i:Nat
def dx(cx:Cx)(ops:List Oper):List Row:=
 (List.rec (motive:=fun _=>List Nat->Nat->List Row) (fun _ _=>[])
  (fun o _ ih bs i=>List.casesOn (motive:=fun _=>List Row) bs [] fun b bs=>⟨o,b,fY cx o,i⟩::ih bs (Nat.succ i)) ops) (befL ops) 0
def ordered(a b:Row):Bool:=Nat.beq a.i b.i||bit a.dL b.i||bit b.dL a.i
def settle(l:List Row):List Row:=
 let acts:=jE (fun r=>bK r.cls||bQ r.cls) l
 mS (fun r=>cond (bQ r.cls&&ew (ordered r) acts) {r with cls:=.yV} r) l
def sE(o:Oper):List Tmp:=o.op.operands.toList.filterMap fun | .tmp t=>some t|_=>none
def gF(ops:List Oper)(o:Oper):List Tmp:=
 match o.guard with
 |none=>sE o
 |some (j,_)=>match nth j ops with
  |some p=>match p.dst with|some d=>d::sE o|none=>sE o
  |none=>sE o
def ir(ops:List Oper)(rows:List Row):Bool:=
 let effs:=jE (fun r=>bK r.cls) rows
 ew (fun r=>Nat.blt r.dL (Nat.pow 2 r.i)) rows &&
 ew (fun a=>ew (ordered a) effs) effs &&
 ew (fun w=>match w.o.dst with
  |none=>true
  |some d=>ew (fun r=>cond (yJ d (gF ops r.o)) (bit r.dL w.i||bit w.dL r.i && !eO r.cls) true&&(Nat.beq r.i w.i || !(match r.o.dst with|some e=>Nat.beq d e|none=>false))) rows) rows
def fa(n:Nat):AV->AV->Bool:=
 Nat.rec (motive:=fun _=>AV->AV->Bool) (fun _ _=>false) (fun _ ih x y=>
  let sameL:List AV->List AV->Bool:=fun a=>List.rec (motive:=fun _=>List AV->Bool) (fun b=>List.casesOn (motive:=fun _=>Bool) b true fun _ _=>false)
   (fun x _ xi b=>List.casesOn (motive:=fun _=>Bool) b false fun y t=>cond (ih x y) (xi t) false) a
  match x,y with
  | .bool a,.bool b=>cond a b (!b)
  | .int j a,.int k b=>ej j k&&yU a b
  | .str a,.str b=>re a b
  | .bM,.bM=>true
  | .ptr a b c d,.ptr e f g h=>Nat.beq a e&&Nat.beq b f&&Nat.beq c g&&Nat.beq d h
  | .aq,.aq=>true
  | .slice a b c d e f none,.slice a' b' c' d' e' f' none=>Nat.beq a a'&&Nat.beq b b'&&Nat.beq c c'&&Nat.beq d d'&&Nat.beq e e'&&Nat.beq f f'
  | .slice a b c d e f (some g),.slice a' b' c' d' e' f' (some g')=>Nat.beq a a'&&Nat.beq b b'&&Nat.beq c c'&&Nat.beq d d'&&Nat.beq e e'&&Nat.beq f f'&&Nat.beq g g'
  | .jl,.jl=>true
  | .map a,.map b=>Nat.beq a b
  | .func (.func f) a b,.func (.func g) c d=>Nat.beq f g&&sameL a c&&sameL b d
  | .obj .yld a,.obj .yld b=>Nat.beq a b
  | .obj .chan a,.obj .chan b=>Nat.beq a b
  | .kM,.kM=>true
  | .bH,.bH=>true
  | .iface t v,.iface u w=>Nat.beq t u&&ih v w
  | .agg a,.agg b=>sameL a b
  | .tuple a,.tuple b=>sameL a b
  |_,_=>false) n
def fG(cx:Cx)(ops:List Oper)(F:Fr)(S:AS)(o:Oper):Option AV:=
 match wanted ops F o with
 |some true=>match bj cx F S o with
  | .val v _=>some v
  |_=>none
 |some false=>some .undef
 |none=>none
structure ey where
 i:Nat
 id:Nat
 obj:dr
def bf(p:ey->Bool)(ps:List ey)(S:AS):AS:=
 List.rec (motive:=fun _=>AS->AS) (fun S=>S) (fun x _ ih S=>ih (cond (p x) ⟨S.h.set x.id x.obj,S.next⟩ S)) ps S
def cL(cx:Cx)(K:eW)(ops:List Oper)(l:List Row):Fr->AS->List ey->List AS->Nat->av (Option (Nat×AV×AS)×Fr×AS×List AS):=
 List.rec (motive:=fun _=>Fr->AS->List ey->List AS->Nat->av (Option (Nat×AV×AS)×Fr×AS×List AS))
  (fun F S ps cd _=>.ok (none,F,bf (fun _=>true) ps S,S::cd) [])
  (fun r l ih F S ps cd id=>
   match r.cls with
   | .fresh=>match wanted ops F r.o with
    |some true=>match aA cx F id r.o.op with
     |some (v,x)=>ih (bG F r.o.dst v) S (⟨r.i,id,x⟩::ps) cd (Nat.succ id)
     |none=>.err 1001
    |some false=>ih (bG F r.o.dst .undef) S ps cd id
    |none=>.err 1002
   | .yV=>
    let S':=bf (fun p=>bit r.dL p.i) ps S
    let ps':=jE (fun p=>!bit r.dL p.i) ps
    av.bind (av.yD (one cx K ops r.o F S')) fun q=>cond q.1 (cond (ew (fun q=>bit q.dL r.i) l) (.ok (some (r.i,q.2.1,q.2.2),F,S,S::cd) []) (.err 1007)) (ih (bG F r.o.dst q.2.1) q.2.2 ps' (S::cd) id)
   |_=>match fG cx ops F S r.o with
    |some v=>ih (bG F r.o.dst v) S ps cd id
    |none=>.err 1006) l
def fp{α:Type}(p:α->Bool)(l:List α):Nat:=List.rec (motive:=fun _=>Nat) 0 (fun x _ ih=>cond (p x) (Nat.succ ih) ih) l
def kX(cx:Cx)(ops:List Oper)(rows:List Row)(F:Fr)(cd:List AS)(r:Row):Bool:=
 let effs:=jE (fun e=>bK e.cls) rows
 let lo:=fp (fun e=>bit r.dL e.i) effs
 let hi:=fp (fun e=>!bit e.dL r.i) effs
 let may:=takeN (Nat.succ (Nat.sub hi lo)) (mb lo cd)
 match may with
 |[_]=>true
 |_=>match r.o.dst with
  |some d=>cond (Nat.blt d F.n) (match F.t.get d with
   |some v=>ew (fun S=>match fG cx ops F S r.o with
    |some u=>fa 8 v u
    |none=>false) may
   |none=>false) false
  |none=>false
def wz{α:Type}(l:List α):List α:=List.rec (motive:=fun _=>List α->List α) (fun a=>a) (fun x _ ih a=>ih (x::a)) l []
def topF(rows:List Row)(F:Fr):Fr:=List.rec (motive:=fun _=>Fr) F (fun r _ ih=>bG ih r.o.dst .top) rows
def oG(cx:Cx)(ops:List Oper)(rows:List Row)(F:Fr)(cd:List AS):Bool:=ew (fun q=>cond (eO q.cls) (kX cx ops rows F cd q) true) rows
def qz(cx:Cx)(ops:List Oper)(rows:List Row)(r:Option (Nat×AV×AS)×Fr×AS×List AS):av (Option AV×Fr×AS):=
 match r.1 with
 |none=>cond (oG cx ops rows r.2.1 (wz r.2.2.2)) (.ok (none,r.2.1,r.2.2.1) []) (.err 1003)
 |some (i,v,S)=>cond (oG cx ops (takeN i rows) r.2.1 (wz r.2.2.2)) (.ok (some v,topF rows r.2.1,S) []) (.err 1003)
def fb(cx:Cx)(K:eW)(ops:List Oper)(F:Fr)(S:AS):av (Option AV×Fr×AS):=
 let rows:=settle (dx cx ops)
 cond (ir ops rows)
  (let k:=fp (fun r=>bQ r.cls) rows
   av.bind (cL cx K ops rows F ⟨S.h,Nat.add S.next k⟩ [] [] S.next) (qz cx ops rows))
  (.err 1004)
inductive Ex where
 |normal|exit (id:Nat)|ret|goto (l:Nat)|dP (v:AV)
structure Out where
 ex:Ex
 F:Fr
 S:AS
def kB(as:List AV)(n:Nat):Fr:=⟨T.ofL as 0 .leaf,Nat.add (eG as) (Nat.sub n (eG as)),[]⟩
def oh(cx:Cx)(S:AS)(t:TypeId)(x:AV):Option AV:=
 match x with
 | .ptr id g off lim=>match aG cx t with
  |some true=>match aE cx t with
   |some n=>match rd S id g off n lim with
    |some cs=>some (.agg cs)
    |none=>none
   |none=>none
  |some false=>match rd S id g off 1 lim with
   |some [v]=>some v
   |_=>none
  |none=>none
 |_=>none
def nB(cx:Cx)(F:Fr)(S:AS)(r:ResultVar)(x:Option (List AV)):Option (List AV):=
 match x with
 |some vs=>match r with
  | .tmp t=>some (eval F (.tmp t)::vs)
  | .cell t ty=>match oh cx S ty (eval F (.tmp t))with
   |some v=>some (v::vs)
   |none=>none
 |none=>none
def j9(cx:Cx)(F:Fr)(S:AS)(l:List ResultVar):Option (List AV):=List.rec (motive:=fun _=>Option (List AV)) (some []) (fun r _ ih=>nB cx F S r ih) l
def b9(cx:Cx)(fn:Func)(F:Fr)(S:AS):Option AV:=
 match j9 cx F S fn.results.toList with
 |some [v]=>some v
 |some vs=>some (.tuple vs)
 |none=>none
def D8(l:List Oper):Bool:=l.all fun o=>match o.op with | .defer _=>false|_=>true
def cP(c:Code):Bool:=
 Code.rec (motive:=fun _=>Bool) true (fun _ ops _=>D8 ops.toList) (fun _ _ a b=>cond a b false) (fun _ _ _ a b=>cond a b false) (fun _ _ b=>b) (fun _ b=>b)
  (fun _ _ _ _ _ _=>false) (fun _=>true) (fun _ b=>b) (fun _=>true) (fun _=>true) true (fun _=>true) c
def lh(S:AS)(id:Nat)(o:AOth):AS:=⟨S.h.set id (.jk o),S.next⟩
def Bf(F:Fr)(ps:List Tmp):List AV->Option Fr:=
 List.rec (motive:=fun _=>Fr->List AV->Option Fr) (fun F as=>List.casesOn (motive:=fun _=>Option Fr) as (some F) fun _ _=>none)
  (fun p _ ih F as=>List.casesOn (motive:=fun _=>Option Fr) as none fun a as=>ih (bG F (some p) a) as) ps F
def jumpOf(e:Ex):Option (Option Code):=
 match e with
 | .normal=>some none
 | .ret=>some (some .ret)
 | .exit id=>some (some (.exit id))
 | .goto l=>some (some (.goto l))
 | .dP _=>none
def oS(id:Nat)(e:Ex)(S:AS):av (AV×AS):=
 match S.h.get id with
 |some (.jk (.loop _ _ F ps a b))=>match jumpOf e with
  |some none=>.ok (.bool true,lh S id (.loop .ready none F ps a b)) []
  |some (some j)=>.ok (.bool false,lh S id (.loop .done (some j) F ps a b)) []
  |none=>.err 2100
 |_=>.err 2101
def oR(ih:Code->Fr->AS->av Out)(id:Nat)(as:List AV)(S:AS):av (AV×AS):=
 match S.h.get id with
 |some (.jk (.loop .ready _ F ps a b))=>match Bf ⟨F.t,F.n,[]⟩ ps.toList as with
  |some F1=>av.bind (ih a F1 S) fun o=>match o.ex with
   | .normal=>match o.S.h.get id with
    |some (.jk (.loop .ready j F ps a' b'))=>av.bind (ih b o.F (lh o.S id (.loop .busy j F ps a' b'))) fun o2=>oS id o2.ex o2.S
    |_=>.err 2102
   |_=>.err 2103
  |none=>.err 2104
 |_=>.err 2105
inductive Md where
 |ret|dP (v:AV)|got (v:AV)
structure zq where
 ex:Ex
 F:Fr
 S:AS
 m:Md
def Out.at(m:Md)(o:Out):zq:=⟨o.ex,o.F,o.S,m⟩
def bu(o:Oper):Bool:=match o.op with | .call {callee:=.builtin .recover,.. }=>true|_=>false
def DQ(m:Md):AV×Md:=match m with | .dP v=>(v,.got v)|m=>(.bH,m)
def eE(cx:Cx)(K:eW)(ops:List Oper)(l:List Oper):Fr->AS->Md->av zq:=
 List.rec (motive:=fun _=>Fr->AS->Md->av zq) (fun F S m=>.ok ⟨.normal,F,S,m⟩ [])
  (fun o _ ih F S m=>match cM o with
   |some _=>.err 1011
   |none=>cond (bu o)
    (match wanted ops F o with
    |some true=>ih (bG F o.dst (DQ m).1) S (DQ m).2
    |some false=>ih (bG F o.dst .undef) S m
    |none=>.err 1012)
    (av.bind (one cx K ops o F S) fun r=>cond r.1 (.ok ⟨.dP r.2.1,F,r.2.2,m⟩ []) (ih (bG F o.dst r.2.1) r.2.2 m))) l
def uf(c:Code):Bool:=
 Code.rec (motive:=fun _=>Bool) false (fun _ ops _=>ops.toList.any bu) (fun _ _ a b=>cond a true b) (fun _ _ _ a b=>cond a true b) (fun _ _ b=>b) (fun _ b=>b)
  (fun _ _ _ _ a b=>cond a true b) (fun _=>false) (fun _ b=>b) (fun _=>false) (fun _=>false) false (fun _=>false) c
def By:eW:=fun _ _ _=>.err 2300
def dR(cx:Cx)(ih:Code->Fr->AS->av Out)(c:Code):Fr->AS->Md->av zq:=
 Code.rec (motive:=fun _=>Fr->AS->Md->av zq)
  (fun F S m=>.ok ⟨.normal,F,S,m⟩ [])
  (fun id ops draw F S m=>cond (ops.toList.any bu) (cond draw (.err 2200) (eE cx By ops.toList ops.toList F S m)) (av.bind (ih (.region id ops draw) F S) fun o=>.ok (o.at m) []))
  (fun _ _ ia ib F S m=>av.bind (ia F S m) fun o=>match o.ex with
   | .normal=>ib o.F o.S o.m
   |_=>.ok o [])
  (fun x _ _ ia ib F S m=>match eval F x with
   | .bool true=>ia F S m
   | .bool false=>ib F S m
   |_=>.err 2201)
  (fun id _ ib F S m=>av.bind (ib F S m) fun o=>match o.ex with
   | .exit j=>cond (Nat.beq j id) (.ok ⟨.normal,o.F,o.S,o.m⟩ []) (.ok o [])
   |_=>.ok o [])
  (fun b _ F S m=>cond (uf b) (.err 2202) (av.bind (ih (.loop b) F S) fun o=>.ok (o.at m) []))
  (fun _ _ _ _ _ _ _ _ _=>.err 2203)
  (fun id F S m=>.ok ⟨.exit id,F,S,m⟩ [])
  (fun _ _ _ _ _=>.err 2204)
  (fun _ _ _ _=>.err 2205)
  (fun _ _ _ _=>.err 2206)
  (fun F S m=>.ok ⟨.ret,F,S,m⟩ [])
  (fun _ _ _ _=>.err 2207) c
def nu(e:Ex)(m:Md):Option Md:=
 match e,m with
 | .normal,.got _=>some .ret
 | .ret,.got _=>some .ret
 | .normal,m=>some m
 | .ret,m=>some m
 | .dP v,.ret=>some (.dP v)
 |_,_=>none
def ei(cx:Cx)(ih:Code->Fr->AS->av Out)(fn:Func)(F:Fr)(ds:List sa):Md->AS->av (AV×AS):=
 List.rec (motive:=fun _=>Md->AS->av (AV×AS))
  (fun m S=>match m with
   | .ret=>match b9 cx fn F S with
    |some v=>.ok (v,S) []
    |none=>.err 2001
   | .dP v=>.ok (.dP v,S) []
   | .got _=>.err 2010)
  (fun d _ rest m S=>match d with
   | .mark id=>match S.h.get id with
    |some (.jk (.yw true))=>rest m (lh S id (.yw false))
    |_=>.err 2011
   | .call g as captured=>match cx.fns.get g with
    |some gn=>match gn.body with
     |some c=>av.bind (dR cx ih c (kB (fH as captured) gn.ntmps) S m) fun o=>match o.F.ds with
      |[]=>match nu o.ex o.m with
       |some m'=>match o.ex with
        | .dP _=>rest m' o.S
        |_=>match b9 cx gn o.F o.S with
         |some _=>rest m' o.S
         |none=>.err 2012
       |none=>.err 2013
      |_=>.err 2014
     |none=>.err 2015
    |none=>.err 2016) ds
def fnF(cx:Cx)(ih:Code->Fr->AS->av Out)(f:FuncId)(as:List AV)(S:AS):av (AV×AS):=
 match cx.dE.get f with
 |some q=>match q as S with
  |some r=>.ok r []
  |none=>.err 2004
 |none=>match cx.fns.get f with
 |some fn=>match fn.body with
  |some c=>av.bind (ih c (kB as fn.ntmps) S) fun o=>match o.ex with
   | .exit _=>.err 2000
   | .goto _=>.err 2005
   | .dP v=>ei cx ih fn o.F o.F.ds (.dP v) o.S
   |_=>ei cx ih fn o.F o.F.ds .ret o.S
  |none=>.err 2002
 |none=>.err 2003
def A9(n:Nat)(a:List AV):List AV->Bool:=
 List.rec (motive:=fun _=>List AV->Bool) (fun b=>List.casesOn (motive:=fun _=>Bool) b true fun _ _=>false)
  (fun x _ xi b=>List.casesOn (motive:=fun _=>Bool) b false fun y t=>cond (fa n x y) (xi t) false) a
def EV(f:AV->Bool):List AV->Bool
 |[]=>true
 |x::l=>f x&&EV f l
def xG:Nat->AV->Bool
 |0,_=>false
 |n+1,v=>match v with
  | .bool _=>true | .int ..=>true | .str _=>true | .bM=>true | .aq=>true | .jl=>true | .kM=>true | .bH=>true | .uh ..=>true
  | .iface _ v=>xG n v
  | .agg cs=>EV (xG n) cs
  | .tuple vs=>EV (xG n) vs
  |_=>false
def qQ(cx:Cx)(ih:Code->Fr->AS->av Out)(f:FuncId)(as:List AV)(S:AS):av (AV×AS):=match cx.jS.get f with
 |none=>fnF cx ih f as S
 |some _=>.err 2020
def cy(cx:Cx)(ih:Code->Fr->AS->av Out):eW:=fun t as S=>
 match t with
 | .fn f=>qQ cx ih f as S
 | .round id=>oR ih id as S
def oP(ih:Code->Fr->AS->av Out)(b:Code)(n:Nat):Code->Fr->AS->av Out:=
 Nat.rec (motive:=fun _=>Code->Fr->AS->av Out) (fun _ _ _=>.err 3003) (fun _ rec c F S=>
  av.bind (ih c F S) fun o=>match o.ex with
   | .goto l=>match findLabel b l with
    |some rest=>rec rest o.F o.S
    |none=>.ok o []
   |_=>.ok o []) n
def pg(ih:Code->Fr->AS->av Out)(id:Nat)(F:Fr)(r:AV×AS):av Out:=
 rD r.1 (fun x=>.ok ⟨.dP x,F,r.2⟩ []) (match r.2.h.get id with
  |some (.jk (.loop .busy _ _ _ _ _))=>.err 2500
  |some (.jk (.loop _ j F' ps a b))=>match j with
   |none=>.ok ⟨.normal,F,lh r.2 id (.loop .exhausted j F' ps a b)⟩ []
   |some c=>ih c F (lh r.2 id (.loop .exhausted j F' ps a b))
  |_=>.err 2501)
def pe(cx:Cx)(ih:Code->Fr->AS->av Out)(x:Operand)(ps:Array Tmp)(a b:Code)(F:Fr)(S:AS):av Out:=
 cond (cP a&&cP b) (match eval F x with
  | .func (.func g) first captured=>
   av.bind (cy cx ih (.fn g) (fH first (.obj .yld (Nat.succ S.next)::captured)) ⟨(S.h.set S.next (.jk (.yw true))).set (Nat.succ S.next) (.jk (.loop .ready none F ps a b)),Nat.succ (Nat.succ S.next)⟩) fun r=>
    pg ih (Nat.succ S.next) ⟨F.t,F.n,.mark S.next::F.ds⟩ r
  |_=>.err 2502) (.err 2503)
def exec(cx:Cx)(n:Nat):Code->Fr->AS->av Out:=
 Nat.rec (motive:=fun _=>Code->Fr->AS->av Out) (fun _ _ _=>.err 3000) (fun n ih c F S=>
  match c with
  | .skip=>.ok ⟨.normal,F,S⟩ []
  | .ret=>.ok ⟨.ret,F,S⟩ []
  | .exit id=>.ok ⟨.exit id,F,S⟩ []
  | .region _ ops false=>av.bind (cY cx (cy cx ih) ops.toList ops.toList F S) fun r=>match r.1 with
   |none=>.ok ⟨.normal,r.2.1,r.2.2⟩ []
   |some v=>.ok ⟨.dP v,r.2.1,r.2.2⟩ []
  | .region _ ops true=>av.bind (fb cx (cy cx ih) ops.toList F S) fun r=>match r.1 with
    |none=>.ok ⟨.normal,r.2.1,r.2.2⟩ []
    |some v=>.ok ⟨.dP v,r.2.1,r.2.2⟩ []
  | .seq a b=>av.bind (ih a F S) fun o=>match o.ex with
   | .normal=>ih b o.F o.S
   |_=>.ok o []
  | .cond x a b=>match eval F x with
   | .bool true=>ih a F S
   | .bool false=>ih b F S
   |_=>.err 3001
  | .block id b=>av.bind (ih b F S) fun o=>match o.ex with
   | .exit j=>cond (Nat.beq j id) (.ok ⟨.normal,o.F,o.S⟩ []) (.ok o [])
   |_=>.ok o []
  | .loop b=>av.bind (ih b F S) fun o=>match o.ex with
   | .normal=>ih (.loop b) o.F o.S
   |_=>.ok o []
  | .scope b=>oP ih b n b F S
  | .label _=>.ok ⟨.normal,F,S⟩ []
  | .goto l=>.ok ⟨.goto l,F,S⟩ []
  | .rangeFunc x ps a b=>pe cx ih x ps a b F S
  | .refuse _=>.err 3002) n
def call(cx:Cx)(n:Nat)(f:FuncId)(as:List AV)(S:AS):av (AV×AS):=cy cx (exec cx n) (.fn f) as S
end Go.Am
end
