/-
  The abstract machine: regions, code, calls.
-/
import Derived.Test.YtdknlbnljfdhgaaGreatDoorAmOps
noncomputable section
namespace Go.Am
open Go
def aj.app {α:Type} (a b:aj α):aj α:=
 match a with
 | .err n=>.err n
 | .ok x xs=>match b with
  | .err n=>.err n
  | .ok y ys=>.ok x (fh xs (y :: ys))
def aj.bind {α β:Type} (r:aj α) (f:α→aj β):aj β:=
 match r with
 | .err n=>.err n
 | .ok x xs=>match xs with
  | []=>f x
  | y :: ys=>aj.app (f x) (List.rec (motive:=fun _=>α→aj β) (fun y=>f y) (fun z _ ih y=>aj.app (f y) (ih z)) ys y)
def aj.sV {α:Type} (r:aj α):aj α:=
 match r with
 | .ok x []=>.ok x []
 | .ok _ _=>.err 1005
 | .err n=>.err n
def wanted (ops:List Oper) (F:Fr) (o:Oper):Option Bool:=
 match o.guard with
 | none=>some true
 | some (j,want)=>match nth j ops with
  | some p=>match p.dst with
   | some d=>match F.t.get d with
    | some (.bool b)=>some (cond want b (!b))
    | some .top=>none
    | _=>some false
   | none=>some false
  | none=>some false
def putT (d:Tmp) (v:AV) (F:Fr):Fr:=@Fr.rec (fun _=>Fr) (fun t n ds=>@Bool.rec (fun _=>Fr) ⟨t,n,ds⟩ ⟨t.set d v,n,ds⟩ (Nat.ble (Nat.succ d) n)) F
def aO (F:Fr) (dst:Option Tmp) (v:AV):Fr:=@Option.rec Tmp (fun _=>AV→Fr→Fr) (fun _ F=>F) putT dst v F
theorem jh (F:Fr) (d:Tmp) (v:AV):aO F (some d) v=cond (Nat.blt d F.n) ⟨F.t.set d v,F.n,F.ds⟩ F:=by
 obtain ⟨t,n,ds⟩:=F;show @Bool.rec (fun _=>Fr) ⟨t,n,ds⟩ ⟨t.set d v,n,ds⟩ (Nat.blt d n)=cond (Nat.blt d n) ⟨t.set d v,n,ds⟩ ⟨t,n,ds⟩;cases Nat.blt d n<;>rfl
inductive Tgt where
 | fn (f:FuncId)
 | round (id:Nat)
abbrev bg:=Tgt→List AV→AS→aj (AV×AS)
def lu {β:Type} (v:AV) (p:AV→β) (k:β):β:=match v with | .dN x=>p x|_=>k
def rH (r:AV×AS):aj (Bool×AV×AS):=lu r.1 (fun x=>.ok (true,x,r.2) []) (.ok (false,r.1,r.2) [])
def valR (r:AV×AS):Bool×AV×AS:=(false,r.1,r.2)
def manyR (l:List (AV×AS)):aj (Bool×AV×AS):=match l with|[]=>.err 1008|x :: xs=>.ok (valR x) (xs.map valR)
def one (cx:Cx) (K:bg) (ops:List Oper) (o:Oper) (F:Fr) (S:AS):aj (Bool×AV×AS):=
 match wanted ops F o with
 | some true=>match bo cx F S o with
  | .val v S=>.ok (false,v,S) []
  | .enter f as S=>aj.bind (K (.fn f) as S) rH
  | .round id as S=>aj.bind (K (.round id) as S) rH
  | .dN v S=>.ok (true,v,S) []
  | .many l=>manyR l
  | .err n=>.err n
 | some false=>.ok (false,.undef,S) []
 | none=>.err 1000
def kK (F:Fr) (c:Call):Option vf:=
 match c.callee with
 | .value f=>match eval F f with
  | .func (.func g) first captured=>some (.call g (fh first (args F c.args)) captured)
  | _=>none
 | _=>none
def dG (o:Oper):Option Call:=match o.op with | .defer c=>some c|_=>none
def bA (cx:Cx) (K:bg) (ops:List Oper) (l:List Oper):Fr→AS→aj (Option AV×Fr×AS):=
 List.rec (motive:=fun _=>Fr→AS→aj (Option AV×Fr×AS)) (fun F S=>.ok (none,F,S) [])
  (fun o _ ih F S=>match dG o with
   | none=>aj.bind (one cx K ops o F S) fun r=>cond r.1 (.ok (some r.2.1,F,r.2.2) []) (ih (aO F o.dst r.2.1) r.2.2)
   | some c=>match wanted ops F o with
    | some true=>match kK F c with
     | some d=>ih (aO ⟨F.t,F.n,d :: F.ds⟩ o.dst .undef) S
     | none=>.err 1009
    | some false=>ih (aO F o.dst .undef) S
    | none=>.err 1010) l
inductive Cls where
 | pure|read|vG|fresh
def gk (cx:Cx) (o:Oper):Cls:=
 match o.op with
 | .move _=>.pure | .assign _=>.pure | .pick ..=>.pure | .build ..=>.pure | .nilCheck _=>.pure | .unOp ..=>.pure
 | .binOp ..=>.pure | .makeInterface ..=>.pure | .makeFunc ..=>.pure | .slice ..=>.pure | .fieldAddr ..=>.pure | .field ..=>.pure
 | .indexAddr ..=>.pure | .index ..=>.pure | .extract ..=>.pure | .typeAssert ..=>.pure
 | .load _ (.global _)=>.pure
 | .load ..=>.read | .lookup ..=>.read
 | .alloc _=>.fresh | .box ..=>.fresh | .buildSlice ..=>.fresh | .makeMap ..=>.fresh | .makeSlice ..=>.fresh
 | .convert _ dst _=>match aY cx dst with
  | some (.int _)=>.pure
  | some .string=>.read
  | _=>.vG
 | .call { callee:=.builtin .len,.. }=>.read
 | .call { callee:=.builtin .cap,.. }=>.pure
 | .call { callee:=.builtin .min,.. }=>.pure
 | .call { callee:=.builtin .max,.. }=>.pure
 | _=>.vG
def bB:Cls→Bool | .vG=>true|_=>false
def bM:Cls→Bool | .fresh=>true|_=>false
def eu:Cls→Bool | .read=>true|_=>false
def befL (ops:List Oper):List Nat:=
 (List.rec (motive:=fun _=>List Nat→List Nat) (fun acc=>acc)
  (fun o _ ih acc=>ih (fh acc [List.foldl (fun s (e:Edge)=>match e.ground with
   | .textOnly _=>s
   | .gcOnly _=>s
   | _=>di (Nat.lor s (Nat.lor (Nat.pow 2 e.on) (match nth e.on acc with|some m=>m|none=>0))) fun n=>n) 0 o.after.toList])) ops) []
def bit (m i:Nat):Bool:=Nat.beq (Nat.mod (Nat.div m (Nat.pow 2 i)) 2) 1
structure Row where
 o:Oper
 c7:Nat
 cls:Cls
 i:Nat
def cT (cx:Cx) (ops:List Oper):List Row:=
 (List.rec (motive:=fun _=>List Nat→Nat→List Row) (fun _ _=>[])
  (fun o _ ih bs i=>List.casesOn (motive:=fun _=>List Row) bs [] fun b bs=>⟨o,b,gk cx o,i⟩ :: ih bs (Nat.succ i)) ops) (befL ops) 0
def ordered (a b:Row):Bool:=Nat.beq a.i b.i||bit a.c7 b.i||bit b.c7 a.i
def settle (l:List Row):List Row:=
 let acts:=fN (fun r=>bB r.cls||bM r.cls) l
 jH (fun r=>cond (bM r.cls&&eY (ordered r) acts) { r with cls:=.vG } r) l
def rP (o:Oper):List Tmp:=o.op.operands.toList.filterMap fun | .tmp t=>some t|_=>none
def gG (ops:List Oper) (o:Oper):List Tmp:=
 match o.guard with
 | none=>rP o
 | some (j,_)=>match nth j ops with
  | some p=>match p.dst with|some d=>d :: rP o|none=>rP o
  | none=>rP o
def gH (ops:List Oper) (rows:List Row):Bool:=
 let EI:=fN (fun r=>bB r.cls) rows
 eY (fun r=>Nat.blt r.c7 (Nat.pow 2 r.i)) rows &&
 eY (fun a=>eY (ordered a) EI) EI &&
 eY (fun w=>match w.o.dst with
  | none=>true
  | some d=>eY (fun r=>cond (mV d (gG ops r.o)) (bit r.c7 w.i||bit w.c7 r.i && !eu r.cls) true&&(Nat.beq r.i w.i || !(match r.o.dst with|some e=>Nat.beq d e|none=>false))) rows) rows
def cM (n:Nat):AV→AV→Bool:=
 Nat.rec (motive:=fun _=>AV→AV→Bool) (fun _ _=>false) (fun _ ih x y=>
  let sameL:List AV→List AV→Bool:=fun a=>List.rec (motive:=fun _=>List AV→Bool) (fun b=>List.casesOn (motive:=fun _=>Bool) b true fun _ _=>false)
   (fun x _ u5 b=>List.casesOn (motive:=fun _=>Bool) b false fun y t=>cond (ih x y) (u5 t) false) a
  match x,y with
  | .bool a,.bool b=>cond a b (!b)
  | .int j a,.int k b=>fw j k&&yT a b
  | .str a,.str b=>qw a b
  | .bd,.bd=>true
  | .ptr a b c d,.ptr e f g h=>Nat.beq a e&&Nat.beq b f&&Nat.beq c g&&Nat.beq d h
  | .ar,.ar=>true
  | .slice a b c d e f none,.slice a' b' c' d' e' f' none=>Nat.beq a a'&&Nat.beq b b'&&Nat.beq c c'&&Nat.beq d d'&&Nat.beq e e'&&Nat.beq f f'
  | .slice a b c d e f (some g),.slice a' b' c' d' e' f' (some g')=>Nat.beq a a'&&Nat.beq b b'&&Nat.beq c c'&&Nat.beq d d'&&Nat.beq e e'&&Nat.beq f f'&&Nat.beq g g'
  | .iF,.iF=>true
  | .map a,.map b=>Nat.beq a b
  | .func (.func f) a b,.func (.func g) c d=>Nat.beq f g&&sameL a c&&sameL b d
  | .obj .yld a,.obj .yld b=>Nat.beq a b
  | .obj .chan a,.obj .chan b=>Nat.beq a b
  | .kB,.kB=>true
  | .b8,.b8=>true
  | .iface t v,.iface u w=>Nat.beq t u&&ih v w
  | .agg a,.agg b=>sameL a b
  | .tuple a,.tuple b=>sameL a b
  | _,_=>false) n
def ej (cx:Cx) (ops:List Oper) (F:Fr) (S:AS) (o:Oper):Option AV:=
 match wanted ops F o with
 | some true=>match bo cx F S o with
  | .val v _=>some v
  | _=>none
 | some false=>some .undef
 | none=>none
structure da where
 i:Nat
 id:Nat
 obj:bE
def aX (p:da→Bool) (ps:List da) (S:AS):AS:=
 List.rec (motive:=fun _=>AS→AS) (fun S=>S) (fun x _ ih S=>ih (cond (p x) ⟨S.h.set x.id x.obj,S.next⟩ S)) ps S
def aL (cx:Cx) (K:bg) (ops:List Oper) (l:List Row):Fr→AS→List da→List AS→Nat→aj (Option (Nat×AV×AS)×Fr×AS×List AS):=
 List.rec (motive:=fun _=>Fr→AS→List da→List AS→Nat→aj (Option (Nat×AV×AS)×Fr×AS×List AS))
  (fun F S ps aE _=>.ok (none,F,aX (fun _=>true) ps S,S :: aE) [])
  (fun r l ih F S ps aE id=>
   match r.cls with
   | .fresh=>match wanted ops F r.o with
    | some true=>match aC cx F id r.o.op with
     | some (v,x)=>ih (aO F r.o.dst v) S (⟨r.i,id,x⟩ :: ps) aE (Nat.succ id)
     | none=>.err 1001
    | some false=>ih (aO F r.o.dst .undef) S ps aE id
    | none=>.err 1002
   | .vG=>
    let S':=aX (fun p=>bit r.c7 p.i) ps S
    let Ce:=fN (fun p=>!bit r.c7 p.i) ps
    aj.bind (aj.sV (one cx K ops r.o F S')) fun q=>cond q.1 (cond (eY (fun q=>bit q.c7 r.i) l) (.ok (some (r.i,q.2.1,q.2.2),F,S,S :: aE) []) (.err 1007)) (ih (aO F r.o.dst q.2.1) q.2.2 Ce (S :: aE) id)
   | _=>match ej cx ops F S r.o with
    | some v=>ih (aO F r.o.dst v) S ps aE id
    | none=>.err 1006) l
def ew {α:Type} (p:α→Bool) (l:List α):Nat:=List.rec (motive:=fun _=>Nat) 0 (fun x _ ih=>cond (p x) (Nat.succ ih) ih) l
def iH (cx:Cx) (ops:List Oper) (rows:List Row) (F:Fr) (aE:List AS) (r:Row):Bool:=
 let EI:=fN (fun e=>bB e.cls) rows
 let lo:=ew (fun e=>bit r.c7 e.i) EI
 let hi:=ew (fun e=>!bit e.c7 r.i) EI
 let may:=takeN (Nat.succ (Nat.sub hi lo)) (jT lo aE)
 match may with
 | [_]=>true
 | _=>match r.o.dst with
  | some d=>cond (Nat.blt d F.n) (match F.t.get d with
   | some v=>eY (fun S=>match ej cx ops F S r.o with
    | some u=>cM 8 v u
    | none=>false) may
   | none=>false) false
  | none=>false
def tc {α:Type} (l:List α):List α:=List.rec (motive:=fun _=>List α→List α) (fun a=>a) (fun x _ ih a=>ih (x :: a)) l []
def CC (rows:List Row) (F:Fr):Fr:=List.rec (motive:=fun _=>Fr) F (fun r _ ih=>aO ih r.o.dst .top) rows
def lq (cx:Cx) (ops:List Oper) (rows:List Row) (F:Fr) (aE:List AS):Bool:=eY (fun q=>cond (eu q.cls) (iH cx ops rows F aE q) true) rows
def lh (cx:Cx) (ops:List Oper) (rows:List Row) (r:Option (Nat×AV×AS)×Fr×AS×List AS):aj (Option AV×Fr×AS):=
 match r.1 with
 | none=>cond (lq cx ops rows r.2.1 (tc r.2.2.2)) (.ok (none,r.2.1,r.2.2.1) []) (.err 1003)
 | some (i,v,S)=>cond (lq cx ops (takeN i rows) r.2.1 (tc r.2.2.2)) (.ok (some v,CC rows r.2.1,S) []) (.err 1003)
def cC (cx:Cx) (K:bg) (ops:List Oper) (F:Fr) (S:AS):aj (Option AV×Fr×AS):=
 let rows:=settle (cT cx ops)
 cond (gH ops rows)
  (let k:=ew (fun r=>bM r.cls) rows
   aj.bind (aL cx K ops rows F ⟨S.h,Nat.add S.next k⟩ [] [] S.next) (lh cx ops rows))
  (.err 1004)
inductive Ex where
 | normal|exit (id:Nat)|ret|goto (l:Nat)|dN (v:AV)
structure Out where
 ex:Ex
 F:Fr
 S:AS
def kZ (as:List AV) (n:Nat):Fr:=⟨T.ofL as 0 .leaf,Nat.add (dv as) (Nat.sub n (dv as)),[]⟩
def nr (cx:Cx) (S:AS) (t:TypeId) (x:AV):Option AV:=
 match x with
 | .ptr id g off ay=>match aD cx t with
  | some true=>match aA cx t with
   | some n=>match rd S id g off n ay with
    | some cs=>some (.agg cs)
    | none=>none
   | none=>none
  | some false=>match rd S id g off 1 ay with
   | some [v]=>some v
   | _=>none
  | none=>none
 | _=>none
def mQ (cx:Cx) (F:Fr) (S:AS) (r:ResultVar) (x:Option (List AV)):Option (List AV):=
 match x with
 | some vs=>match r with
  | .tmp t=>some (eval F (.tmp t) :: vs)
  | .cell t ty=>match nr cx S ty (eval F (.tmp t)) with
   | some v=>some (v :: vs)
   | none=>none
 | none=>none
def kA (cx:Cx) (F:Fr) (S:AS) (l:List ResultVar):Option (List AV):=List.rec (motive:=fun _=>Option (List AV)) (some []) (fun r _ ih=>mQ cx F S r ih) l
def cZ (cx:Cx) (fn:Func) (F:Fr) (S:AS):Option AV:=
 match kA cx F S fn.results.toList with
 | some [v]=>some v
 | some vs=>some (.tuple vs)
 | none=>none
def Du (l:List Oper):Bool:=l.all fun o=>match o.op with | .defer _=>false|_=>true
def cl (c:Code):Bool:=
 Code.rec (motive:=fun _=>Bool) true (fun _ ops _=>Du ops.toList) (fun _ _ a b=>cond a b false) (fun _ _ _ a b=>cond a b false) (fun _ _ b=>b) (fun _ b=>b)
  (fun _ _ _ _ _ _=>false) (fun _=>true) (fun _ b=>b) (fun _=>true) (fun _=>true) true (fun _=>true) c
def jy (S:AS) (id:Nat) (o:zo):AS:=⟨S.h.set id (.dO o),S.next⟩
def AX (F:Fr) (ps:List Tmp):List AV→Option Fr:=
 List.rec (motive:=fun _=>Fr→List AV→Option Fr) (fun F as=>List.casesOn (motive:=fun _=>Option Fr) as (some F) fun _ _=>none)
  (fun p _ ih F as=>List.casesOn (motive:=fun _=>Option Fr) as none fun a as=>ih (aO F (some p) a) as) ps F
def jumpOf (e:Ex):Option (Option Code):=
 match e with
 | .normal=>some none
 | .ret=>some (some .ret)
 | .exit id=>some (some (.exit id))
 | .goto l=>some (some (.goto l))
 | .dN _=>none
def kz (id:Nat) (e:Ex) (S:AS):aj (AV×AS):=
 match S.h.get id with
 | some (.dO (.loop _ _ F ps a b))=>match jumpOf e with
  | some none=>.ok (.bool true,jy S id (.loop .ready none F ps a b)) []
  | some (some j)=>.ok (.bool false,jy S id (.loop .done (some j) F ps a b)) []
  | none=>.err 2100
 | _=>.err 2101
def nY (ih:Code→Fr→AS→aj Out) (id:Nat) (as:List AV) (S:AS):aj (AV×AS):=
 match S.h.get id with
 | some (.dO (.loop .ready _ F ps a b))=>match AX ⟨F.t,F.n,[]⟩ ps.toList as with
  | some F1=>aj.bind (ih a F1 S) fun o=>match o.ex with
   | .normal=>match o.S.h.get id with
    | some (.dO (.loop .ready j F ps a' b'))=>aj.bind (ih b o.F (jy o.S id (.loop .busy j F ps a' b'))) fun o2=>kz id o2.ex o2.S
    | _=>.err 2102
   | _=>.err 2103
  | none=>.err 2104
 | _=>.err 2105
inductive Md where
 | ret|dN (v:AV)|got (v:AV)
structure SOut where
 ex:Ex
 F:Fr
 S:AS
 m:Md
def Out.at (m:Md) (o:Out):SOut:=⟨o.ex,o.F,o.S,m⟩
def ff (o:Oper):Bool:=match o.op with | .call { callee:=.builtin .recover,.. }=>true|_=>false
def Dd (m:Md):AV×Md:=match m with | .dN v=>(v,.got v)|m=>(.b8,m)
def jt (cx:Cx) (K:bg) (ops:List Oper) (l:List Oper):Fr→AS→Md→aj SOut:=
 List.rec (motive:=fun _=>Fr→AS→Md→aj SOut) (fun F S m=>.ok ⟨.normal,F,S,m⟩ [])
  (fun o _ ih F S m=>match dG o with
   | some _=>.err 1011
   | none=>cond (ff o)
    (match wanted ops F o with
    | some true=>ih (aO F o.dst (Dd m).1) S (Dd m).2
    | some false=>ih (aO F o.dst .undef) S m
    | none=>.err 1012)
    (aj.bind (one cx K ops o F S) fun r=>cond r.1 (.ok ⟨.dN r.2.1,F,r.2.2,m⟩ []) (ih (aO F o.dst r.2.1) r.2.2 m))) l
def tF (c:Code):Bool:=
 Code.rec (motive:=fun _=>Bool) false (fun _ ops _=>ops.toList.any ff) (fun _ _ a b=>cond a true b) (fun _ _ _ a b=>cond a true b) (fun _ _ b=>b) (fun _ b=>b)
  (fun _ _ _ _ a b=>cond a true b) (fun _=>false) (fun _ b=>b) (fun _=>false) (fun _=>false) false (fun _=>false) c
def noK:bg:=fun _ _ _=>.err 2300
def iQ (cx:Cx) (ih:Code→Fr→AS→aj Out) (c:Code):Fr→AS→Md→aj SOut:=
 Code.rec (motive:=fun _=>Fr→AS→Md→aj SOut)
  (fun F S m=>.ok ⟨.normal,F,S,m⟩ [])
  (fun id ops draw F S m=>cond (ops.toList.any ff) (cond draw (.err 2200) (jt cx noK ops.toList ops.toList F S m)) (aj.bind (ih (.region id ops draw) F S) fun o=>.ok (o.at m) []))
  (fun _ _ ia ib F S m=>aj.bind (ia F S m) fun o=>match o.ex with
   | .normal=>ib o.F o.S o.m
   | _=>.ok o [])
  (fun x _ _ ia ib F S m=>match eval F x with
   | .bool true=>ia F S m
   | .bool false=>ib F S m
   | _=>.err 2201)
  (fun id _ ib F S m=>aj.bind (ib F S m) fun o=>match o.ex with
   | .exit j=>cond (Nat.beq j id) (.ok ⟨.normal,o.F,o.S,o.m⟩ []) (.ok o [])
   | _=>.ok o [])
  (fun b _ F S m=>cond (tF b) (.err 2202) (aj.bind (ih (.loop b) F S) fun o=>.ok (o.at m) []))
  (fun _ _ _ _ _ _ _ _ _=>.err 2203)
  (fun id F S m=>.ok ⟨.exit id,F,S,m⟩ [])
  (fun _ _ _ _ _=>.err 2204)
  (fun _ _ _ _=>.err 2205)
  (fun _ _ _ _=>.err 2206)
  (fun F S m=>.ok ⟨.ret,F,S,m⟩ [])
  (fun _ _ _ _=>.err 2207) c
def vk (e:Ex) (m:Md):Option Md:=
 match e,m with
 | .normal,.got _=>some .ret
 | .ret,.got _=>some .ret
 | .normal,m=>some m
 | .ret,m=>some m
 | .dN v,.ret=>some (.dN v)
 | _,_=>none
def fc (cx:Cx) (ih:Code→Fr→AS→aj Out) (fn:Func) (F:Fr) (ds:List vf):Md→AS→aj (AV×AS):=
 List.rec (motive:=fun _=>Md→AS→aj (AV×AS))
  (fun m S=>match m with
   | .ret=>match cZ cx fn F S with
    | some v=>.ok (v,S) []
    | none=>.err 2001
   | .dN v=>.ok (.dN v,S) []
   | .got _=>.err 2010)
  (fun d _ rest m S=>match d with
   | .mark id=>match S.h.get id with
    | some (.dO (.sq true))=>rest m (jy S id (.sq false))
    | _=>.err 2011
   | .call g as captured=>match cx.fns.get g with
    | some gn=>match gn.body with
     | some c=>aj.bind (iQ cx ih c (kZ (fh as captured) gn.ntmps) S m) fun o=>match o.F.ds with
      | []=>match vk o.ex o.m with
       | some m'=>match o.ex with
        | .dN _=>rest m' o.S
        | _=>match cZ cx gn o.F o.S with
         | some _=>rest m' o.S
         | none=>.err 2012
       | none=>.err 2013
      | _=>.err 2014
     | none=>.err 2015
    | none=>.err 2016) ds
def Ey (cx:Cx) (ih:Code→Fr→AS→aj Out) (f:FuncId) (as:List AV) (S:AS):aj (AV×AS):=
 match cx.bG.get f with
 | some q=>match q as S with
  | some r=>.ok r []
  | none=>.err 2004
 | none=>match cx.fns.get f with
 | some fn=>match fn.body with
  | some c=>aj.bind (ih c (kZ as fn.ntmps) S) fun o=>match o.ex with
   | .exit _=>.err 2000
   | .goto _=>.err 2005
   | .dN v=>fc cx ih fn o.F o.F.ds (.dN v) o.S
   | _=>fc cx ih fn o.F o.F.ds .ret o.S
  | none=>.err 2002
 | none=>.err 2003
def AW (S:AS) (n:Nat):AV→List Nat:=
 Nat.rec (motive:=fun _=>AV→List Nat) (fun _=>[]) (fun _ ih v=>
  let all:List AV→List Nat:=fun l=>List.rec (motive:=fun _=>List Nat) [] (fun x _ r=>fh (ih x) r) l
  match v with
  | .ptr id _ _ _=>match S.h.get id with
   | some (.row cells _ _ _ _)=>id :: all cells
   | _=>[id]
  | .slice id _ _ _ _ _ _=>match S.h.get id with
   | some (.row cells _ _ _ _)=>id :: all cells
   | _=>[id]
  | .map id=>[id]
  | .func _ a b=>fh (all a) (all b)
  | .iface _ v=>ih v
  | .agg l=>all l
  | _=>[]) n
def oI (S:AS) (ids:List Nat):AS:=⟨List.foldl (fun t id=>match S.h.get id with|some o=>t.set id o|none=>t) .leaf ids,S.next⟩
def qI (n:Nat) (a:List AV):List AV→Bool:=
 List.rec (motive:=fun _=>List AV→Bool) (fun b=>List.casesOn (motive:=fun _=>Bool) b true fun _ _=>false)
  (fun x _ u5 b=>List.casesOn (motive:=fun _=>Bool) b false fun y t=>cond (cM n x y) (u5 t) false) a
def sameEs (a:List bj):List bj→Bool:=
 List.rec (motive:=fun _=>List bj→Bool) (fun b=>List.casesOn (motive:=fun _=>Bool) b true fun _ _=>false)
  (fun x _ u5 b=>List.casesOn (motive:=fun _=>Bool) b false fun y t=>cond (cM 8 x.key y.key&&cM 8 x.val y.val&&Nat.beq x.born y.born) (u5 t) false) a
def sameO (a b:bE):Bool:=
 match a,b with
 | .row c l t f y,.row c' l' t' f' y'=>qI 8 c c'&&Nat.beq l l'&&Nat.beq t t'&&(cond f f' (!f'))&&Nat.beq y y'
 | .map es k,.map es' k'=>sameEs es es'&&Nat.beq k k'
 | _,_=>false
def iX (f:AV→Bool):List AV→Bool
 | []=>true
 | x :: l=>f x&&iX f l
def eF:Nat→AV→Bool
 | 0,_=>false
 | n+1,v=>match v with
  | .bool _=>true | .int ..=>true | .str _=>true | .bd=>true | .ar=>true | .iF=>true | .kB=>true | .b8=>true | .mY ..=>true
  | .iface _ v=>eF n v
  | .agg cs=>iX (eF n) cs
  | .tuple vs=>iX (eF n) vs
  | _=>false
def qh (S:AS) (r:AV×AS):Option (AV×Option (Nat×bE)):=
 match r.1 with
 | .slice id g _ _ _ _ _=>cond (Nat.ble S.next id) (match r.2.h.get id with
  | some (.row cells low top frz ty)=>cond (iX (eF 2) cells&&Nat.beq g top&&Nat.ble low top) (some (r.1,some (id,.row cells top top frz ty))) none
  | _=>none) none
 | v=>cond (eF 3 v) (some (v,none)) none
def qE (S:AS) (ids:List Nat) (r:AV×AS):Bool:=
 eY (fun id=>match S.h.get id,r.2.h.get id with
  | some a,some b=>sameO a b
  | none,none=>true
  | _,_=>false) ids
def sameK2 (a b:AV×Option (Nat×bE)):Bool:=
 cM 8 a.1 b.1&&(match a.2,b.2 with
  | none,none=>true
  | some (i,x),some (j,y)=>Nat.beq i j&&sameO x y
  | _,_=>false)
def fe (S:AS) (next:Nat) (k:Option (Nat×bE)):AS:=
 match k with
 | none=>⟨S.h,next⟩
 | some (i,x)=>⟨S.h.set i x,next⟩
def keptAs (S:AS) (k:AV×Option (Nat×bE)) (y:AV×AS):Bool:=match qh S y with|some k'=>sameK2 k k'|none=>false
def Dp (S:AS) (ids:List Nat) (r:aj (AV×AS)):aj (AV×AS):=
 match r with
 | .err n=>.err n
 | .ok x xs=>match qh S x with
  | none=>.err 2400
  | some k=>cond (qE S ids x&&eY (qE S ids) xs)
   (cond (eY (fun y=>Nat.beq y.2.next x.2.next) xs) (cond (eY (keptAs S k) xs)
    (.ok (k.1,fe S x.2.next k.2) []) (.err 2403)) (.err 2402)) (.err 2401)
def oc (cx:Cx) (ih:Code→Fr→AS→aj Out) (f:FuncId) (as:List AV) (S:AS):aj (AV×AS):=
 match cx.fQ.get f with
 | none=>Ey cx ih f as S
 | some _=>
  let ids:=List.rec (motive:=fun _=>List Nat) [] (fun x _ r=>fh (AW S 4 x) r) as
  Dp S ids (Ey cx ih f as (oI S ids))
def bq (cx:Cx) (ih:Code→Fr→AS→aj Out):bg:=fun t as S=>
 match t with
 | .fn f=>oc cx ih f as S
 | .round id=>nY ih id as S
def jf (ih:Code→Fr→AS→aj Out) (b:Code) (n:Nat):Code→Fr→AS→aj Out:=
 Nat.rec (motive:=fun _=>Code→Fr→AS→aj Out) (fun _ _ _=>.err 3003) (fun _ rec c F S=>
  aj.bind (ih c F S) fun o=>match o.ex with
   | .goto l=>match findLabel b l with
    | some rest=>rec rest o.F o.S
    | none=>.ok o []
   | _=>.ok o []) n
def lQ (ih:Code→Fr→AS→aj Out) (id:Nat) (F:Fr) (r:AV×AS):aj Out:=
 lu r.1 (fun x=>.ok ⟨.dN x,F,r.2⟩ []) (match r.2.h.get id with
  | some (.dO (.loop .busy _ _ _ _ _))=>.err 2500
  | some (.dO (.loop _ j F' ps a b))=>match j with
   | none=>.ok ⟨.normal,F,jy r.2 id (.loop .exhausted j F' ps a b)⟩ []
   | some c=>ih c F (jy r.2 id (.loop .exhausted j F' ps a b))
  | _=>.err 2501)
def jF (cx:Cx) (ih:Code→Fr→AS→aj Out) (x:Operand) (ps:Array Tmp) (a b:Code) (F:Fr) (S:AS):aj Out:=
 cond (cl a&&cl b) (match eval F x with
  | .func (.func g) first captured=>
   aj.bind (bq cx ih (.fn g) (fh first (.obj .yld (Nat.succ S.next) :: captured)) ⟨(S.h.set S.next (.dO (.sq true))).set (Nat.succ S.next) (.dO (.loop .ready none F ps a b)),Nat.succ (Nat.succ S.next)⟩) fun r=>
    lQ ih (Nat.succ S.next) ⟨F.t,F.n,.mark S.next :: F.ds⟩ r
  | _=>.err 2502) (.err 2503)
def exec (cx:Cx) (n:Nat):Code→Fr→AS→aj Out:=
 Nat.rec (motive:=fun _=>Code→Fr→AS→aj Out) (fun _ _ _=>.err 3000) (fun n ih c F S=>
  match c with
  | .skip=>.ok ⟨.normal,F,S⟩ []
  | .ret=>.ok ⟨.ret,F,S⟩ []
  | .exit id=>.ok ⟨.exit id,F,S⟩ []
  | .region _ ops false=>aj.bind (bA cx (bq cx ih) ops.toList ops.toList F S) fun r=>match r.1 with
   | none=>.ok ⟨.normal,r.2.1,r.2.2⟩ []
   | some v=>.ok ⟨.dN v,r.2.1,r.2.2⟩ []
  | .region _ ops true=>aj.bind (cC cx (bq cx ih) ops.toList F S) fun r=>match r.1 with
    | none=>.ok ⟨.normal,r.2.1,r.2.2⟩ []
    | some v=>.ok ⟨.dN v,r.2.1,r.2.2⟩ []
  | .seq a b=>aj.bind (ih a F S) fun o=>match o.ex with
   | .normal=>ih b o.F o.S
   | _=>.ok o []
  | .cond x a b=>match eval F x with
   | .bool true=>ih a F S
   | .bool false=>ih b F S
   | _=>.err 3001
  | .block id b=>aj.bind (ih b F S) fun o=>match o.ex with
   | .exit j=>cond (Nat.beq j id) (.ok ⟨.normal,o.F,o.S⟩ []) (.ok o [])
   | _=>.ok o []
  | .loop b=>aj.bind (ih b F S) fun o=>match o.ex with
   | .normal=>ih (.loop b) o.F o.S
   | _=>.ok o []
  | .scope b=>jf ih b n b F S
  | .label _=>.ok ⟨.normal,F,S⟩ []
  | .goto l=>.ok ⟨.goto l,F,S⟩ []
  | .rangeFunc x ps a b=>jF cx ih x ps a b F S
  | .refuse _=>.err 3002) n
def call (cx:Cx) (n:Nat) (f:FuncId) (as:List AV) (S:AS):aj (AV×AS):=bq cx (exec cx n) (.fn f) as S
end Go.Am
end
