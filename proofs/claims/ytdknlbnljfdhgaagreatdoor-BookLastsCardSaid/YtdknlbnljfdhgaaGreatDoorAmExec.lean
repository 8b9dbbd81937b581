/-
  The abstract machine: regions, code, calls.
-/
import Derived.Test.YtdknlbnljfdhgaaGreatDoorAmOps
open Nat renaming beq->zza,blt->zzb
set_option linter.unusedVariables false
set_option linter.unusedSimpArgs false
noncomputable section
namespace Go.Am
open Go
def az.app{α:Type}(a b:az α):az α:=
 match a with
 | .err n=>.err n
 | .ok x xs=>match b with
  | .err n=>.err n
  | .ok y ys=>.ok x (gC xs (y::ys))
def az.bind{α β:Type}(r:az α)(f:α->az β):az β:=
 match r with
 | .err n=>.err n
 | .ok x xs=>match xs with
  |[]=>f x
  |y::ys=>az.app (f x) (List.rec (motive:=fun _=>α->az β) (fun y=>f y) (fun z _ ih y=>az.app (f y) (ih z)) ys y)
def az.BA{α:Type}(r:az α):az α:=
 match r with
 | .ok x []=>.ok x []
 | .ok _ _=>.err 1005
 | .err n=>.err n
def wanted(ops:List Oper)(F:Fr)(o:Oper):Option Bool:=
 match o.guard with
 |none=>some true
 |some (j,want)=>match nth j ops with
  |some p=>match p.dst with
   |some d=>match F.t.get d with
    |some (.bool b)=>some (cond want b (!b))
    |some .top=>none
    |_=>some false
   |none=>some false
  |none=>some false
def putT(d:Tmp)(v:AV)(F:Fr):Fr:=@Fr.rec (fun _=>Fr) (fun t n ds=>@Bool.rec (fun _=>Fr) ⟨t,n,ds⟩ ⟨t.set d v,n,ds⟩ (Nat.ble (Nat.succ d) n)) F
def bQ(F:Fr)(dst:Option Tmp)(v:AV):Fr:=@Option.rec Tmp (fun _=>AV->Fr->Fr) (fun _ F=>F) putT dst v F
theorem kC(F:Fr)(d:Tmp)(v:AV):bQ F (some d) v=cond (zzb d F.n) ⟨F.t.set d v,F.n,F.ds⟩ F:=by
 obtain⟨t,n,ds⟩:=F;show @Bool.rec (fun _=>Fr) ⟨t,n,ds⟩ ⟨t.set d v,n,ds⟩ (zzb d n)=cond (zzb d n) ⟨t.set d v,n,ds⟩ ⟨t,n,ds⟩;cases zzb d n<;>rfl
inductive Tgt where
 |fn (f:FuncId)
 |round (id:Nat)
abbrev fK:=Tgt->List AV->AS->az (AV×AS)
def tJ{β:Type}(v:AV)(p:AV->β)(k:β):β:=match v with | .eO x=>p x|_=>k
def St(r:AV×AS):az (Bool×AV×AS):=tJ r.1 (fun x=>.ok (true,x,r.2) []) (.ok (false,r.1,r.2) [])
def XF(r:AV×AS):Bool×AV×AS:=(false,r.1,r.2)
def jhP(l:List (AV×AS)):az (Bool×AV×AS):=match l with|[]=>.err 1008|x::xs=>.ok (XF x) (xs.map XF)
def one(cx:Cx)(K:fK)(ops:List Oper)(o:Oper)(F:Fr)(S:AS):az (Bool×AV×AS):=
 match wanted ops F o with
 |some true=>match bF cx F S o with
  | .val v S=>.ok (false,v,S) []
  | .enter f as S=>az.bind (K (.fn f) as S) St
  | .round id as S=>az.bind (K (.round id) as S) St
  | .eO v S=>.ok (true,v,S) []
  | .many l=>jhP l
  | .err n=>.err n
 |some false=>.ok (false,.undef,S) []
 |none=>.err 1000
def iM(F:Fr)(c:Call):Option ur:=
 match c.callee with
 | .value f=>match eval F f with
  | .func (.func g) first captured=>some (.call g (gC first (args F c.args)) captured)
  |_=>none
 |_=>none
def dc(o:Oper):Option Call:=match o.op with | .defer c=>some c|_=>none
def dz(cx:Cx)(K:fK)(ops:List Oper)(l:List Oper):Fr->AS->az (Option AV×Fr×AS):=
 List.rec (motive:=fun _=>Fr->AS->az (Option AV×Fr×AS)) (fun F S=>.ok (none,F,S) [])
  (fun o _ ih F S=>match dc o with
   |none=>az.bind (one cx K ops o F S) fun r=>cond r.1 (.ok (some r.2.1,F,r.2.2) []) (ih (bQ F o.dst r.2.1) r.2.2)
   |some c=>match wanted ops F o with
    |some true=>match iM F c with
     |some d=>ih (bQ ⟨F.t,F.n,d::F.ds⟩ o.dst .undef) S
     |none=>.err 1009
    |some false=>ih (bQ F o.dst .undef) S
    |none=>.err 1010) l
inductive Cls where
 |pure|read|BS|fresh
def ie(cx:Cx)(o:Oper):Cls:=
 match o.op with
 | .move _=>.pure | .assign _=>.pure | .pick ..=>.pure | .build ..=>.pure | .nilCheck _=>.pure | .unOp ..=>.pure
 | .binOp ..=>.pure | .makeInterface ..=>.pure | .makeFunc ..=>.pure | .slice ..=>.pure | .fieldAddr ..=>.pure | .field ..=>.pure
 | .indexAddr ..=>.pure | .index ..=>.pure | .extract ..=>.pure | .typeAssert ..=>.pure
 | .load _ (.global _)=>.pure
 | .load ..=>.read | .lookup ..=>.read
 | .alloc _=>.fresh | .box ..=>.fresh | .buildSlice ..=>.fresh | .makeMap ..=>.fresh | .makeSlice ..=>.fresh
 | .convert _ dst _=>match bN cx dst with
  |some (.int _)=>.pure
  |some .string=>.read
  |_=>.BS
 | .call {callee:=.builtin .len,.. }=>.read
 | .call {callee:=.builtin .cap,.. }=>.pure
 | .call {callee:=.builtin .min,.. }=>.pure
 | .call {callee:=.builtin .max,.. }=>.pure
 |_=>.BS
def bY:Cls->Bool | .BS=>true|_=>false
def cl:Cls->Bool | .fresh=>true|_=>false
def fE:Cls->Bool | .read=>true|_=>false
def jfl(ops:List Oper):List Nat:=
 (List.rec (motive:=fun _=>List Nat->List Nat) (fun acc=>acc)
  (fun o _ ih acc=>ih (gC acc [List.foldl (fun s (e:Edge)=>match e.ground with
   | .textOnly _=>s
   | .gcOnly _=>s
   |_=>gP (Nat.lor s (Nat.lor (Nat.pow 2 e.on) (match nth e.on acc with|some m=>m|none=>0))) fun n=>n) 0 o.after.toList])) ops) []
def bit(m i:Nat):Bool:=zza (Nat.mod (Nat.div m (Nat.pow 2 i)) 2) 1
structure Row where
 o:Oper
 eG:Nat
 cls:Cls
 i:Nat
def dW(cx:Cx)(ops:List Oper):List Row:=
 (List.rec (motive:=fun _=>List Nat->Nat->List Row) (fun _ _=>[])
  (fun o _ ih bs i=>List.casesOn (motive:=fun _=>List Row) bs [] fun b bs=>⟨o,b,ie cx o,i⟩::ih bs (Nat.succ i)) ops) (jfl ops) 0
def ordered(a b:Row):Bool:=zza a.i b.i||bit a.eG b.i||bit b.eG a.i
def settle(l:List Row):List Row:=
 let jlp:=kH (fun r=>bY r.cls||cl r.cls) l
 oD (fun r=>cond (cl r.cls&&js (ordered r) jlp) {r with cls:=.BS} r) l
def uR(o:Oper):List Tmp:=o.op.operands.toList.filterMap fun | .tmp t=>some t|_=>none
def iG(ops:List Oper)(o:Oper):List Tmp:=
 match o.guard with
 |none=>uR o
 |some (j,_)=>match nth j ops with
  |some p=>match p.dst with|some d=>d::uR o|none=>uR o
  |none=>uR o
def jf(ops:List Oper)(rows:List Row):Bool:=
 let V3:=kH (fun r=>bY r.cls) rows
 js (fun r=>zzb r.eG (Nat.pow 2 r.i)) rows &&
 js (fun a=>js (ordered a) V3) V3 &&
 js (fun w=>match w.o.dst with
  |none=>true
  |some d=>js (fun r=>cond (BG d (iG ops r.o)) (bit r.eG w.i||bit w.eG r.i && !fE r.cls) true&&(zza r.i w.i || !(match r.o.dst with|some e=>zza d e|none=>false))) rows) rows
def fL(n:Nat):AV->AV->Bool:=
 Nat.rec (motive:=fun _=>AV->AV->Bool) (fun _ _=>false) (fun _ ih x y=>
  let Mk:List AV->List AV->Bool:=fun a=>List.rec (motive:=fun _=>List AV->Bool) (fun b=>List.casesOn (motive:=fun _=>Bool) b true fun _ _=>false)
   (fun x _ zY b=>List.casesOn (motive:=fun _=>Bool) b false fun y t=>cond (ih x y) (zY t) false) a
  match x,y with
  | .bool a,.bool b=>cond a b (!b)
  | .int j a,.int k b=>eE j k&&Bs a b
  | .str a,.str b=>tV a b
  | .ck,.ck=>true
  | .ptr a b c d,.ptr e f g h=>zza a e&&zza b f&&zza c g&&zza d h
  | .ar,.ar=>true
  | .slice a b c d e f none,.slice a' b' c' d' e' f' none=>zza a a'&&zza b b'&&zza c c'&&zza d d'&&zza e e'&&zza f f'
  | .slice a b c d e f (some g),.slice a' b' c' d' e' f' (some g')=>zza a a'&&zza b b'&&zza c c'&&zza d d'&&zza e e'&&zza f f'&&zza g g'
  | .j8,.j8=>true
  | .map a,.map b=>zza a b
  | .func (.func f) a b,.func (.func g) c d=>zza f g&&Mk a c&&Mk b d
  | .obj .LZ a,.obj .LZ b=>zza a b
  | .obj .chan a,.obj .chan b=>zza a b
  | .eQ,.eQ=>true
  | .bR,.bR=>true
  | .iface t v,.iface u w=>zza t u&&ih v w
  | .agg a,.agg b=>Mk a b
  | .tuple a,.tuple b=>Mk a b
  |_,_=>false) n
def gy(cx:Cx)(ops:List Oper)(F:Fr)(S:AS)(o:Oper):Option AV:=
 match wanted ops F o with
 |some true=>match bF cx F S o with
  | .val v _=>some v
  |_=>none
 |some false=>some .undef
 |none=>none
structure fk where
 i:Nat
 id:Nat
 obj:dR
def bE(p:fk->Bool)(ps:List fk)(S:AS):AS:=
 List.rec (motive:=fun _=>AS->AS) (fun S=>S) (fun x _ ih S=>ih (cond (p x) ⟨S.h.set x.id x.obj,S.nx⟩ S)) ps S
def db(cx:Cx)(K:fK)(ops:List Oper)(l:List Row):Fr->AS->List fk->List AS->Nat->az (Option (Nat×AV×AS)×Fr×AS×List AS):=
 List.rec (motive:=fun _=>Fr->AS->List fk->List AS->Nat->az (Option (Nat×AV×AS)×Fr×AS×List AS))
  (fun F S ps cH _=>.ok (none,F,bE (fun _=>true) ps S,S::cH) [])
  (fun r l ih F S ps cH id=>
   match r.cls with
   | .fresh=>match wanted ops F r.o with
    |some true=>match aD cx F id r.o.op with
     |some (v,x)=>ih (bQ F r.o.dst v) S (⟨r.i,id,x⟩::ps) cH (Nat.succ id)
     |none=>.err 1001
    |some false=>ih (bQ F r.o.dst .undef) S ps cH id
    |none=>.err 1002
   | .BS=>
    let S':=bE (fun p=>bit r.eG p.i) ps S
    let J8:=kH (fun p=>!bit r.eG p.i) ps
    az.bind (az.BA (one cx K ops r.o F S')) fun q=>cond q.1 (cond (js (fun q=>bit q.eG r.i) l) (.ok (some (r.i,q.2.1,q.2.2),F,S,S::cH) []) (.err 1007)) (ih (bQ F r.o.dst q.2.1) q.2.2 J8 (S::cH) id)
   |_=>match gy cx ops F S r.o with
    |some v=>ih (bQ F r.o.dst v) S ps cH id
    |none=>.err 1006) l
def fZ{α:Type}(p:α->Bool)(l:List α):Nat:=List.rec (motive:=fun _=>Nat) 0 (fun x _ ih=>cond (p x) (Nat.succ ih) ih) l
def mr(cx:Cx)(ops:List Oper)(rows:List Row)(F:Fr)(cH:List AS)(r:Row):Bool:=
 let V3:=kH (fun e=>bY e.cls) rows
 let lo:=fZ (fun e=>bit r.eG e.i) V3
 let hi:=fZ (fun e=>!bit e.eG r.i) V3
 let may:=takeN (Nat.succ (Nat.sub hi lo)) (lT lo cH)
 match may with
 |[_]=>true
 |_=>match r.o.dst with
  |some d=>cond (zzb d F.n) (match F.t.get d with
   |some v=>js (fun S=>match gy cx ops F S r.o with
    |some u=>fL 8 v u
    |none=>false) may
   |none=>false) false
  |none=>false
def zn{α:Type}(l:List α):List α:=List.rec (motive:=fun _=>List α->List α) (fun a=>a) (fun x _ ih a=>ih (x::a)) l []
def Jy(rows:List Row)(F:Fr):Fr:=List.rec (motive:=fun _=>Fr) F (fun r _ ih=>bQ ih r.o.dst .top) rows
def qB(cx:Cx)(ops:List Oper)(rows:List Row)(F:Fr)(cH:List AS):Bool:=js (fun q=>cond (fE q.cls) (mr cx ops rows F cH q) true) rows
def sC(cx:Cx)(ops:List Oper)(rows:List Row)(r:Option (Nat×AV×AS)×Fr×AS×List AS):az (Option AV×Fr×AS):=
 match r.1 with
 |none=>cond (qB cx ops rows r.2.1 (zn r.2.2.2)) (.ok (none,r.2.1,r.2.2.1) []) (.err 1003)
 |some (i,v,S)=>cond (qB cx ops (takeN i rows) r.2.1 (zn r.2.2.2)) (.ok (some v,Jy rows r.2.1,S) []) (.err 1003)
def fM(cx:Cx)(K:fK)(ops:List Oper)(F:Fr)(S:AS):az (Option AV×Fr×AS):=
 let rows:=settle (dW cx ops)
 cond (jf ops rows)
  (let k:=fZ (fun r=>cl r.cls) rows
   az.bind (db cx K ops rows F ⟨S.h,Nat.add S.nx k⟩ [] [] S.nx) (sC cx ops rows))
  (.err 1004)
inductive Ex where
 |normal|exit (id:Nat)|ret|goto (l:Nat)|eO (v:AV)
structure Out where
 ex:Ex
 F:Fr
 S:AS
def lP(as:List AV)(n:Nat):Fr:=⟨T.YI as 0 .leaf,Nat.add (fw as) (Nat.sub n (fw as)),[]⟩
def qj(cx:Cx)(S:AS)(t:TypeId)(x:AV):Option AV:=
 match x with
 | .ptr id g off lim=>match aN cx t with
  |some true=>match aG cx t with
   |some n=>match rd S id g off n lim with
    |some cs=>some (.agg cs)
    |none=>none
   |none=>none
  |some false=>match rd S id g off 1 lim with
   |some [v]=>some v
   |_=>none
  |none=>none
 |_=>none
def pE(cx:Cx)(F:Fr)(S:AS)(r:ResultVar)(x:Option (List AV)):Option (List AV):=
 match x with
 |some vs=>match r with
  | .tmp t=>some (eval F (.tmp t)::vs)
  | .cell t ty=>match qj cx S ty (eval F (.tmp t))with
   |some v=>some (v::vs)
   |none=>none
 |none=>none
def lD(cx:Cx)(F:Fr)(S:AS)(l:List ResultVar):Option (List AV):=List.rec (motive:=fun _=>Option (List AV)) (some []) (fun r _ ih=>pE cx F S r ih) l
def cC(cx:Cx)(fn:Func)(F:Fr)(S:AS):Option AV:=
 match lD cx F S fn.results.toList with
 |some [v]=>some v
 |some vs=>some (.tuple vs)
 |none=>none
def GX(l:List Oper):Bool:=l.all fun o=>match o.op with | .defer _=>false|_=>true
def df(c:Code):Bool:=
 Code.rec (motive:=fun _=>Bool) true (fun _ ops _=>GX ops.toList) (fun _ _ a b=>cond a b false) (fun _ _ _ a b=>cond a b false) (fun _ _ b=>b) (fun _ b=>b)
  (fun _ _ _ _ _ _=>false) (fun _=>true) (fun _ b=>b) (fun _=>true) (fun _=>true) true (fun _=>true) c
def mB(S:AS)(id:Nat)(o:LW):AS:=⟨S.h.set id (.j6 o),S.nx⟩
def DJ(F:Fr)(ps:List Tmp):List AV->Option Fr:=
 List.rec (motive:=fun _=>Fr->List AV->Option Fr) (fun F as=>List.casesOn (motive:=fun _=>Option Fr) as (some F) fun _ _=>none)
  (fun p _ ih F as=>List.casesOn (motive:=fun _=>Option Fr) as none fun a as=>ih (bQ F (some p) a) as) ps F
def jdC(e:Ex):Option (Option Code):=
 match e with
 | .normal=>some none
 | .ret=>some (some .ret)
 | .exit id=>some (some (.exit id))
 | .goto l=>some (some (.goto l))
 | .eO _=>none
def qN(id:Nat)(e:Ex)(S:AS):az (AV×AS):=
 match S.h.get id with
 |some (.j6 (.loop _ _ F ps a b))=>match jdC e with
  |some none=>.ok (.bool true,mB S id (.loop .ready none F ps a b)) []
  |some (some j)=>.ok (.bool false,mB S id (.loop .done (some j) F ps a b)) []
  |none=>.err 2100
 |_=>.err 2101
def qM(ih:Code->Fr->AS->az Out)(id:Nat)(as:List AV)(S:AS):az (AV×AS):=
 match S.h.get id with
 |some (.j6 (.loop .ready _ F ps a b))=>match DJ ⟨F.t,F.n,[]⟩ ps.toList as with
  |some F1=>az.bind (ih a F1 S) fun o=>match o.ex with
   | .normal=>match o.S.h.get id with
    |some (.j6 (.loop .ready j F ps a' b'))=>az.bind (ih b o.F (mB o.S id (.loop .busy j F ps a' b'))) fun o2=>qN id o2.ex o2.S
    |_=>.err 2102
   |_=>.err 2103
  |none=>.err 2104
 |_=>.err 2105
inductive Md where
 |ret|eO (v:AV)|Vq (v:AV)
structure Cd where
 ex:Ex
 F:Fr
 S:AS
 m:Md
def Out.at(m:Md)(o:Out):Cd:=⟨o.ex,o.F,o.S,m⟩
def bI(o:Oper):Bool:=match o.op with | .call {callee:=.builtin .recover,.. }=>true|_=>false
def GL(m:Md):AV×Md:=match m with | .eO v=>(v,.Vq v)|m=>(.bR,m)
def fp(cx:Cx)(K:fK)(ops:List Oper)(l:List Oper):Fr->AS->Md->az Cd:=
 List.rec (motive:=fun _=>Fr->AS->Md->az Cd) (fun F S m=>.ok ⟨.normal,F,S,m⟩ [])
  (fun o _ ih F S m=>match dc o with
   |some _=>.err 1011
   |none=>cond (bI o)
    (match wanted ops F o with
    |some true=>ih (bQ F o.dst (GL m).1) S (GL m).2
    |some false=>ih (bQ F o.dst .undef) S m
    |none=>.err 1012)
    (az.bind (one cx K ops o F S) fun r=>cond r.1 (.ok ⟨.eO r.2.1,F,r.2.2,m⟩ []) (ih (bQ F o.dst r.2.1) r.2.2 m))) l
def wE(c:Code):Bool:=
 Code.rec (motive:=fun _=>Bool) false (fun _ ops _=>ops.toList.any bI) (fun _ _ a b=>cond a true b) (fun _ _ _ a b=>cond a true b) (fun _ _ b=>b) (fun _ b=>b)
  (fun _ _ _ _ a b=>cond a true b) (fun _=>false) (fun _ b=>b) (fun _=>false) (fun _=>false) false (fun _=>false) c
def DX:fK:=fun _ _ _=>.err 2300
def eS(cx:Cx)(ih:Code->Fr->AS->az Out)(c:Code):Fr->AS->Md->az Cd:=
 Code.rec (motive:=fun _=>Fr->AS->Md->az Cd)
  (fun F S m=>.ok ⟨.normal,F,S,m⟩ [])
  (fun id ops draw F S m=>cond (ops.toList.any bI) (cond draw (.err 2200) (fp cx DX ops.toList ops.toList F S m)) (az.bind (ih (.region id ops draw) F S) fun o=>.ok (o.at m) []))
  (fun _ _ ia ib F S m=>az.bind (ia F S m) fun o=>match o.ex with
   | .normal=>ib o.F o.S o.m
   |_=>.ok o [])
  (fun x _ _ ia ib F S m=>match eval F x with
   | .bool true=>ia F S m
   | .bool false=>ib F S m
   |_=>.err 2201)
  (fun id _ ib F S m=>az.bind (ib F S m) fun o=>match o.ex with
   | .exit j=>cond (zza j id) (.ok ⟨.normal,o.F,o.S,o.m⟩ []) (.ok o [])
   |_=>.ok o [])
  (fun b _ F S m=>cond (wE b) (.err 2202) (az.bind (ih (.loop b) F S) fun o=>.ok (o.at m) []))
  (fun _ _ _ _ _ _ _ _ _=>.err 2203)
  (fun id F S m=>.ok ⟨.exit id,F,S,m⟩ [])
  (fun _ _ _ _ _=>.err 2204)
  (fun _ _ _ _=>.err 2205)
  (fun _ _ _ _=>.err 2206)
  (fun F S m=>.ok ⟨.ret,F,S,m⟩ [])
  (fun _ _ _ _=>.err 2207) c
def pz(e:Ex)(m:Md):Option Md:=
 match e,m with
 | .normal,.Vq _=>some .ret
 | .ret,.Vq _=>some .ret
 | .normal,m=>some m
 | .ret,m=>some m
 | .eO v,.ret=>some (.eO v)
 |_,_=>none
def fh(cx:Cx)(ih:Code->Fr->AS->az Out)(fn:Func)(F:Fr)(ds:List ur):Md->AS->az (AV×AS):=
 List.rec (motive:=fun _=>Md->AS->az (AV×AS))
  (fun m S=>match m with
   | .ret=>match cC cx fn F S with
    |some v=>.ok (v,S) []
    |none=>.err 2001
   | .eO v=>.ok (.eO v,S) []
   | .Vq _=>.err 2010)
  (fun d _ rest m S=>match d with
   | .mark id=>match S.h.get id with
    |some (.j6 (.Bt true))=>rest m (mB S id (.Bt false))
    |_=>.err 2011
   | .call g as captured=>match cx.fns.get g with
    |some gn=>match gn.body with
     |some c=>az.bind (eS cx ih c (lP (gC as captured) gn.ntmps) S m) fun o=>match o.F.ds with
      |[]=>match pz o.ex o.m with
       |some m'=>match o.ex with
        | .eO _=>rest m' o.S
        |_=>match cC cx gn o.F o.S with
         |some _=>rest m' o.S
         |none=>.err 2012
       |none=>.err 2013
      |_=>.err 2014
     |none=>.err 2015
    |none=>.err 2016) ds
def Xo(cx:Cx)(ih:Code->Fr->AS->az Out)(f:FuncId)(as:List AV)(S:AS):az (AV×AS):=
 match cx.ei.get f with
 |some q=>match q as S with
  |some r=>.ok r []
  |none=>.err 2004
 |none=>match cx.fns.get f with
 |some fn=>match fn.body with
  |some c=>az.bind (ih c (lP as fn.ntmps) S) fun o=>match o.ex with
   | .exit _=>.err 2000
   | .goto _=>.err 2005
   | .eO v=>fh cx ih fn o.F o.F.ds (.eO v) o.S
   |_=>fh cx ih fn o.F o.F.ds .ret o.S
  |none=>.err 2002
 |none=>.err 2003
def DE(n:Nat)(a:List AV):List AV->Bool:=
 List.rec (motive:=fun _=>List AV->Bool) (fun b=>List.casesOn (motive:=fun _=>Bool) b true fun _ _=>false)
  (fun x _ zY b=>List.casesOn (motive:=fun _=>Bool) b false fun y t=>cond (fL n x y) (zY t) false) a
def HL(f:AV->Bool):List AV->Bool
 |[]=>true
 |x::l=>f x&&HL f l
def Au:Nat->AV->Bool
 |0,_=>false
 |n+1,v=>match v with
  | .bool _=>true | .int ..=>true | .str _=>true | .ck=>true | .ar=>true | .j8=>true | .eQ=>true | .bR=>true | .wH ..=>true
  | .iface _ v=>Au n v
  | .agg cs=>HL (Au n) cs
  | .tuple vs=>HL (Au n) vs
  |_=>false
def sY(cx:Cx)(ih:Code->Fr->AS->az Out)(f:FuncId)(as:List AV)(S:AS):az (AV×AS):=match cx.kZ.get f with
 |none=>Xo cx ih f as S
 |some _=>.err 2020
def cS(cx:Cx)(ih:Code->Fr->AS->az Out):fK:=fun t as S=>
 match t with
 | .fn f=>sY cx ih f as S
 | .round id=>qM ih id as S
def qK(ih:Code->Fr->AS->az Out)(b:Code)(n:Nat):Code->Fr->AS->az Out:=
 Nat.rec (motive:=fun _=>Code->Fr->AS->az Out) (fun _ _ _=>.err 3003) (fun _ rec c F S=>
  az.bind (ih c F S) fun o=>match o.ex with
   | .goto l=>match findLabel b l with
    |some rest=>rec rest o.F o.S
    |none=>.ok o []
   |_=>.ok o []) n
def qT(ih:Code->Fr->AS->az Out)(id:Nat)(F:Fr)(r:AV×AS):az Out:=
 tJ r.1 (fun x=>.ok ⟨.eO x,F,r.2⟩ []) (match r.2.h.get id with
  |some (.j6 (.loop .busy _ _ _ _ _))=>.err 2500
  |some (.j6 (.loop _ j F' ps a b))=>match j with
   |none=>.ok ⟨.normal,F,mB r.2 id (.loop .exhausted j F' ps a b)⟩ []
   |some c=>ih c F (mB r.2 id (.loop .exhausted j F' ps a b))
  |_=>.err 2501)
def qR(cx:Cx)(ih:Code->Fr->AS->az Out)(x:Operand)(ps:Array Tmp)(a b:Code)(F:Fr)(S:AS):az Out:=
 cond (df a&&df b) (match eval F x with
  | .func (.func g) first captured=>
   az.bind (cS cx ih (.fn g) (gC first (.obj .LZ (Nat.succ S.nx)::captured)) ⟨(S.h.set S.nx (.j6 (.Bt true))).set (Nat.succ S.nx) (.j6 (.loop .ready none F ps a b)),Nat.succ (Nat.succ S.nx)⟩) fun r=>
    qT ih (Nat.succ S.nx) ⟨F.t,F.n,.mark S.nx::F.ds⟩ r
  |_=>.err 2502) (.err 2503)
def exec(cx:Cx)(n:Nat):Code->Fr->AS->az Out:=
 Nat.rec (motive:=fun _=>Code->Fr->AS->az Out) (fun _ _ _=>.err 3000) (fun n ih c F S=>
  match c with
  | .skip=>.ok ⟨.normal,F,S⟩ []
  | .ret=>.ok ⟨.ret,F,S⟩ []
  | .exit id=>.ok ⟨.exit id,F,S⟩ []
  | .region _ ops false=>az.bind (dz cx (cS cx ih) ops.toList ops.toList F S) fun r=>match r.1 with
   |none=>.ok ⟨.normal,r.2.1,r.2.2⟩ []
   |some v=>.ok ⟨.eO v,r.2.1,r.2.2⟩ []
  | .region _ ops true=>az.bind (fM cx (cS cx ih) ops.toList F S) fun r=>match r.1 with
    |none=>.ok ⟨.normal,r.2.1,r.2.2⟩ []
    |some v=>.ok ⟨.eO v,r.2.1,r.2.2⟩ []
  | .seq a b=>az.bind (ih a F S) fun o=>match o.ex with
   | .normal=>ih b o.F o.S
   |_=>.ok o []
  | .cond x a b=>match eval F x with
   | .bool true=>ih a F S
   | .bool false=>ih b F S
   |_=>.err 3001
  | .block id b=>az.bind (ih b F S) fun o=>match o.ex with
   | .exit j=>cond (zza j id) (.ok ⟨.normal,o.F,o.S⟩ []) (.ok o [])
   |_=>.ok o []
  | .loop b=>az.bind (ih b F S) fun o=>match o.ex with
   | .normal=>ih (.loop b) o.F o.S
   |_=>.ok o []
  | .scope b=>qK ih b n b F S
  | .label _=>.ok ⟨.normal,F,S⟩ []
  | .goto l=>.ok ⟨.goto l,F,S⟩ []
  | .rangeFunc x ps a b=>qR cx ih x ps a b F S
  | .refuse _=>.err 3002) n
def call(cx:Cx)(n:Nat)(f:FuncId)(as:List AV)(S:AS):az (AV×AS):=cS cx (exec cx n) (.fn f) as S
end Go.Am
end
