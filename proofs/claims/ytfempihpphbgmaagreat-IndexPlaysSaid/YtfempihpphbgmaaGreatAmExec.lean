/-
  The abstract machine: regions, code, calls.
-/
import Derived.Test.YtfempihpphbgmaaGreatAmOps
noncomputable section
namespace Go.Am
open Go
def aq.app {α : Type} (a b : aq α) : aq α :=
 match a with
 | .err n => .err n
 | .ok x xs => match b with
  | .err n => .err n
  | .ok y ys => .ok x (dB xs (y :: ys))
def aq.bind {α β : Type} (r : aq α) (f : α → aq β) : aq β :=
 match r with
 | .err n => .err n
 | .ok x xs => match xs with
  | [] => f x
  | y :: ys => aq.app (f x) (List.rec (motive := fun _ => α → aq β) (fun y => f y) (fun z _ ih y => aq.app (f y) (ih z)) ys y)
def aq.uY {α : Type} (r : aq α) : aq α :=
 match r with
 | .ok x [] => .ok x []
 | .ok _ _ => .err 1005
 | .err n => .err n
def wanted (ops : List Oper) (F : Fr) (o : Oper) : Option Bool :=
 match o.guard with
 | none => some true
 | some (j, want) => match nth j ops with
  | some p => match p.dst with
   | some d => match F.t.get d with
    | some (.bool b) => some (cond want b (!b))
    | some .top => none
    | _ => some false
   | none => some false
  | none => some false
def putT (d : Tmp) (v : AV) (F : Fr) : Fr := @Fr.rec (fun _ => Fr) (fun t n ds => @Bool.rec (fun _ => Fr) ⟨t, n, ds⟩ ⟨t.set d v, n, ds⟩ (Nat.ble (Nat.succ d) n)) F
def bj (F : Fr) (dst : Option Tmp) (v : AV) : Fr := @Option.rec Tmp (fun _ => AV → Fr → Fr) (fun _ F => F) putT dst v F
theorem iL (F : Fr) (d : Tmp) (v : AV) : bj F (some d) v = cond (Nat.blt d F.n) ⟨F.t.set d v, F.n, F.ds⟩ F := by
 obtain ⟨t, n, ds⟩ := F;show @Bool.rec (fun _ => Fr) ⟨t, n, ds⟩ ⟨t.set d v, n, ds⟩ (Nat.blt d n) = cond (Nat.blt d n) ⟨t.set d v, n, ds⟩ ⟨t, n, ds⟩
 cases Nat.blt d n <;> rfl
inductive Tgt where
 | fn (f : FuncId)
 | round (id : Nat)
abbrev dH := Tgt → List AV → AS → aq (AV × AS)
def pP {β : Type} (v : AV) (p : AV → β) (k : β) : β := match v with | .ei x => p x | _ => k
def retR (r : AV × AS) : aq (Bool × AV × AS) := pP r.1 (fun x => .ok (true, x, r.2) []) (.ok (false, r.1, r.2) [])
def valR (r : AV × AS) : Bool × AV × AS := (false, r.1, r.2)
def manyR (l : List (AV × AS)) : aq (Bool × AV × AS) := match l with | [] => .err 1008 | x :: xs => .ok (valR x) (xs.map valR)
def one (cx : Cx) (K : dH) (ops : List Oper) (o : Oper) (F : Fr) (S : AS) : aq (Bool × AV × AS) :=
 match wanted ops F o with
 | some true => match bq cx F S o with
  | .val v S => .ok (false, v, S) []
  | .enter f as S => aq.bind (K (.fn f) as S) retR
  | .round id as S => aq.bind (K (.round id) as S) retR
  | .ei v S => .ok (true, v, S) []
  | .many l => manyR l
  | .err n => .err n
 | some false => .ok (false, .undef, S) []
 | none => .err 1000
def mD (F : Fr) (c : Call) : Option uq :=
 match c.callee with
 | .value f => match eval F f with
  | .func (.func g) first captured => some (.call g (dB first (args F c.args)) captured)
  | _ => none
 | _ => none
def eK (o : Oper) : Option Call := match o.op with | .defer c => some c | _ => none
def bM (cx : Cx) (K : dH) (ops : List Oper) (l : List Oper) : Fr → AS → aq (Option AV × Fr × AS) :=
 List.rec (motive := fun _ => Fr → AS → aq (Option AV × Fr × AS)) (fun F S => .ok (none, F, S) [])
  (fun o _ ih F S => match eK o with
   | none => aq.bind (one cx K ops o F S) fun r => cond r.1 (.ok (some r.2.1, F, r.2.2) []) (ih (bj F o.dst r.2.1) r.2.2)
   | some c => match wanted ops F o with
    | some true => match mD F c with
     | some d => ih (bj ⟨F.t, F.n, d :: F.ds⟩ o.dst .undef) S
     | none => .err 1009
    | some false => ih (bj F o.dst .undef) S
    | none => .err 1010) l
inductive Cls where
 | pure | read | xH | fresh
def fM (cx : Cx) (o : Oper) : Cls :=
 match o.op with
 | .move _ => .pure | .assign _ => .pure | .pick .. => .pure | .build .. => .pure | .nilCheck _ => .pure | .unOp .. => .pure
 | .binOp .. => .pure | .makeInterface .. => .pure | .makeFunc .. => .pure | .slice .. => .pure | .fieldAddr .. => .pure | .field .. => .pure
 | .indexAddr .. => .pure | .index .. => .pure | .extract .. => .pure | .typeAssert .. => .pure
 | .load _ (.global _) => .pure
 | .load .. => .read | .lookup .. => .read
 | .alloc _ => .fresh | .box .. => .fresh | .buildSlice .. => .fresh | .makeMap .. => .fresh | .makeSlice .. => .fresh
 | .convert _ dst _ => match aZ cx dst with
  | some (.int _) => .pure
  | some .string => .read
  | _ => .xH
 | .call { callee := .builtin .len, .. } => .read
 | .call { callee := .builtin .cap, .. } => .pure
 | .call { callee := .builtin .min, .. } => .pure
 | .call { callee := .builtin .max, .. } => .pure
 | _ => .xH
def bA : Cls → Bool | .xH => true | _ => false
def bV : Cls → Bool | .fresh => true | _ => false
def dX : Cls → Bool | .read => true | _ => false
def befL (ops : List Oper) : List Nat :=
 (List.rec (motive := fun _ => List Nat → List Nat) (fun acc => acc)
  (fun o _ ih acc => ih (dB acc [List.foldl (fun s (e : Edge) => match e.ground with
   | .textOnly _ => s
   | .gcOnly _ => s
   | _ => e7 (Nat.lor s (Nat.lor (Nat.pow 2 e.on) (match nth e.on acc with | some m => m | none => 0))) fun n => n) 0 o.after.toList])) ops) []
def bit (m i : Nat) : Bool := Nat.beq (Nat.mod (Nat.div m (Nat.pow 2 i)) 2) 1
structure Row where
 o : Oper
 eE : Nat
 cls : Cls
 i : Nat
def cV (cx : Cx) (ops : List Oper) : List Row :=
 (List.rec (motive := fun _ => List Nat → Nat → List Row) (fun _ _ => [])
  (fun o _ ih bs i => List.casesOn (motive := fun _ => List Row) bs [] fun b bs => ⟨o, b, fM cx o, i⟩ :: ih bs (Nat.succ i)) ops) (befL ops) 0
def ordered (a b : Row) : Bool := Nat.beq a.i b.i || bit a.eE b.i || bit b.eE a.i
def settle (l : List Row) : List Row :=
 let acts := gv (fun r => bA r.cls || bV r.cls) l
 j4 (fun r => cond (bV r.cls && fZ (ordered r) acts) { r with cls := .xH } r) l
def qO (o : Oper) : List Tmp := o.op.operands.toList.filterMap fun | .tmp t => some t | _ => none
def gH (ops : List Oper) (o : Oper) : List Tmp :=
 match o.guard with
 | none => qO o
 | some (j, _) => match nth j ops with
  | some p => match p.dst with | some d => d :: qO o | none => qO o
  | none => qO o
def mh (ops : List Oper) (rows : List Row) : Bool :=
 let effs := gv (fun r => bA r.cls) rows
 fZ (fun r => Nat.blt r.eE (Nat.pow 2 r.i)) rows &&
 fZ (fun a => fZ (ordered a) effs) effs &&
 fZ (fun w => match w.o.dst with
  | none => true
  | some d => fZ (fun r => cond (mr d (gH ops r.o)) (bit r.eE w.i || bit w.eE r.i && !dX r.cls) true && (Nat.beq r.i w.i || !(match r.o.dst with | some e => Nat.beq d e | none => false))) rows) rows
def cG (n : Nat) : AV → AV → Bool :=
 Nat.rec (motive := fun _ => AV → AV → Bool) (fun _ _ => false) (fun _ ih x y =>
  let sameL : List AV → List AV → Bool := fun a => List.rec (motive := fun _ => List AV → Bool) (fun b => List.casesOn (motive := fun _ => Bool) b true fun _ _ => false)
   (fun x _ ub b => List.casesOn (motive := fun _ => Bool) b false fun y t => cond (ih x y) (ub t) false) a
  match x, y with
  | .bool a, .bool b => cond a b (!b)
  | .int j a, .int k b => iO j k && C2 a b
  | .str a, .str b => fX a b
  | .dT, .dT => true
  | .ptr a b c d, .ptr e f g h => Nat.beq a e && Nat.beq b f && Nat.beq c g && Nat.beq d h
  | .aH, .aH => true
  | .slice a b c d e f none, .slice a' b' c' d' e' f' none => Nat.beq a a' && Nat.beq b b' && Nat.beq c c' && Nat.beq d d' && Nat.beq e e' && Nat.beq f f'
  | .slice a b c d e f (some g), .slice a' b' c' d' e' f' (some g') => Nat.beq a a' && Nat.beq b b' && Nat.beq c c' && Nat.beq d d' && Nat.beq e e' && Nat.beq f f' && Nat.beq g g'
  | .gm, .gm => true
  | .map a, .map b => Nat.beq a b
  | .func (.func f) a b, .func (.func g) c d => Nat.beq f g && sameL a c && sameL b d
  | .obj .yld a, .obj .yld b => Nat.beq a b
  | .obj .chan a, .obj .chan b => Nat.beq a b
  | .jE, .jE => true
  | .bN, .bN => true
  | .iface t v, .iface u w => Nat.beq t u && ih v w
  | .agg a, .agg b => sameL a b
  | .tuple a, .tuple b => sameL a b
  | _, _ => false) n
def eG (cx : Cx) (ops : List Oper) (F : Fr) (S : AS) (o : Oper) : Option AV :=
 match wanted ops F o with
 | some true => match bq cx F S o with
  | .val v _ => some v
  | _ => none
 | some false => some .undef
 | none => none
structure dC where
 i : Nat
 id : Nat
 obj : bW
def bf (p : dC → Bool) (ps : List dC) (S : AS) : AS :=
 List.rec (motive := fun _ => AS → AS) (fun S => S) (fun x _ ih S => ih (cond (p x) ⟨S.h.set x.id x.obj, S.next⟩ S)) ps S
def bp (cx : Cx) (K : dH) (ops : List Oper) (l : List Row) : Fr → AS → List dC → List AS → Nat → aq (Fr × AS × List AS) :=
 List.rec (motive := fun _ => Fr → AS → List dC → List AS → Nat → aq (Fr × AS × List AS))
  (fun F S ps cd _ => .ok (F, bf (fun _ => true) ps S, S :: cd) [])
  (fun r _ ih F S ps cd id =>
   match r.cls with
   | .fresh => match wanted ops F r.o with
    | some true => match aI cx F id r.o.op with
     | some (v, x) => ih (bj F r.o.dst v) S (⟨r.i, id, x⟩ :: ps) cd (Nat.succ id)
     | none => .err 1001
    | some false => ih (bj F r.o.dst .undef) S ps cd id
    | none => .err 1002
   | .xH =>
    let S' := bf (fun p => bit r.eE p.i) ps S
    let ps' := gv (fun p => !bit r.eE p.i) ps
    aq.bind (aq.uY (one cx K ops r.o F S')) fun q => cond q.1 (.err 1007) (ih (bj F r.o.dst q.2.1) q.2.2 ps' (S :: cd) id)
   | _ => match eG cx ops F S r.o with
    | some v => ih (bj F r.o.dst v) S ps cd id
    | none => .err 1006) l
def fa {α : Type} (p : α → Bool) (l : List α) : Nat := List.rec (motive := fun _ => Nat) 0 (fun x _ ih => cond (p x) (Nat.succ ih) ih) l
def fU (cx : Cx) (ops : List Oper) (rows : List Row) (F : Fr) (cd : List AS) (r : Row) : Bool :=
 let effs := gv (fun e => bA e.cls) rows
 let lo := fa (fun e => bit r.eE e.i) effs
 let hi := fa (fun e => !bit e.eE r.i) effs
 let may := takeN (Nat.succ (Nat.sub hi lo)) (kc lo cd)
 match may with
 | [_] => true
 | _ => match r.o.dst with
  | some d => cond (Nat.blt d F.n) (match F.t.get d with
   | some v => fZ (fun S => match eG cx ops F S r.o with
    | some u => cG 8 v u
    | none => false) may
   | none => false) false
  | none => false
def zS {α : Type} (l : List α) : List α := List.rec (motive := fun _ => List α → List α) (fun a => a) (fun x _ ih a => ih (x :: a)) l []
def cN (cx : Cx) (K : dH) (ops : List Oper) (F : Fr) (S : AS) : aq (Fr × AS) :=
 let rows := settle (cV cx ops)
 cond (mh ops rows)
  (let k := fa (fun r => bV r.cls) rows
   aq.bind (bp cx K ops rows F ⟨S.h, Nat.add S.next k⟩ [] [] S.next) fun r =>
    let cd := zS r.2.2
    cond (fZ (fun q => cond (dX q.cls) (fU cx ops rows r.1 cd q) true) rows) (.ok (r.1, r.2.1) []) (.err 1003))
  (.err 1004)
inductive Ex where
 | normal | exit (id : Nat) | ret | goto (l : Nat) | ei (v : AV)
structure Out where
 ex : Ex
 F : Fr
 S : AS
def kx (as : List AV) (n : Nat) : Fr := ⟨T.ofL as 0 .leaf, Nat.add (cZ as) (Nat.sub n (cZ as)), []⟩
def mO (cx : Cx) (S : AS) (t : TypeId) (x : AV) : Option AV :=
 match x with
 | .ptr id g off lim => match aE cx t with
  | some true => match aw cx t with
   | some n => match rd S id g off n lim with
    | some cs => some (.agg cs)
    | none => none
   | none => none
  | some false => match rd S id g off 1 lim with
   | some [v] => some v
   | _ => none
  | none => none
 | _ => none
def mf (cx : Cx) (F : Fr) (S : AS) (r : ResultVar) (x : Option (List AV)) : Option (List AV) :=
 match x with
 | some vs => match r with
  | .tmp t => some (eval F (.tmp t) :: vs)
  | .cell t ty => match mO cx S ty (eval F (.tmp t)) with
   | some v => some (v :: vs)
   | none => none
 | none => none
def jD (cx : Cx) (F : Fr) (S : AS) (l : List ResultVar) : Option (List AV) := List.rec (motive := fun _ => Option (List AV)) (some []) (fun r _ ih => mf cx F S r ih) l
def cO (cx : Cx) (fn : Func) (F : Fr) (S : AS) : Option AV :=
 match jD cx F S fn.results.toList with
 | some [v] => some v
 | some vs => some (.tuple vs)
 | none => none
def Ce (l : List Oper) : Bool := l.all fun o => match o.op with | .defer _ => false | _ => true
def bZ (c : Code) : Bool :=
 Code.rec (motive := fun _ => Bool) true (fun _ ops _ => Ce ops.toList) (fun _ _ a b => cond a b false) (fun _ _ _ a b => cond a b false) (fun _ _ b => b) (fun _ b => b)
  (fun _ _ _ _ _ _ => false) (fun _ => true) (fun _ b => b) (fun _ => true) (fun _ => true) true (fun _ => true) c
def jT (S : AS) (id : Nat) (o : Bk) : AS := ⟨S.h.set id (.dS o), S.next⟩
def zW (F : Fr) (ps : List Tmp) : List AV → Option Fr :=
 List.rec (motive := fun _ => Fr → List AV → Option Fr) (fun F as => List.casesOn (motive := fun _ => Option Fr) as (some F) fun _ _ => none)
  (fun p _ ih F as => List.casesOn (motive := fun _ => Option Fr) as none fun a as => ih (bj F (some p) a) as) ps F
def jumpOf (e : Ex) : Option (Option Code) :=
 match e with
 | .normal => some none
 | .ret => some (some .ret)
 | .exit id => some (some (.exit id))
 | .goto l => some (some (.goto l))
 | .ei _ => none
def jV (id : Nat) (e : Ex) (S : AS) : aq (AV × AS) :=
 match S.h.get id with
 | some (.dS (.loop _ _ F ps a b)) => match jumpOf e with
  | some none => .ok (.bool true, jT S id (.loop .ready none F ps a b)) []
  | some (some j) => .ok (.bool false, jT S id (.loop .done (some j) F ps a b)) []
  | none => .err 2100
 | _ => .err 2101
def nv (ih : Code → Fr → AS → aq Out) (id : Nat) (as : List AV) (S : AS) : aq (AV × AS) :=
 match S.h.get id with
 | some (.dS (.loop .ready _ F ps a b)) => match zW ⟨F.t, F.n, []⟩ ps.toList as with
  | some F1 => aq.bind (ih a F1 S) fun o => match o.ex with
   | .normal => match o.S.h.get id with
    | some (.dS (.loop .ready j F ps a' b')) => aq.bind (ih b o.F (jT o.S id (.loop .busy j F ps a' b'))) fun o2 => jV id o2.ex o2.S
    | _ => .err 2102
   | _ => .err 2103
  | none => .err 2104
 | _ => .err 2105
inductive Md where
 | ret | ei (v : AV) | got (v : AV)
structure DG where
 ex : Ex
 F : Fr
 S : AS
 m : Md
def Out.at (m : Md) (o : Out) : DG := ⟨o.ex, o.F, o.S, m⟩
def eu (o : Oper) : Bool := match o.op with | .call { callee := .builtin .recover, .. } => true | _ => false
def B2 (m : Md) : AV × Md := match m with | .ei v => (v, .got v) | m => (.bN, m)
def iX (cx : Cx) (K : dH) (ops : List Oper) (l : List Oper) : Fr → AS → Md → aq DG :=
 List.rec (motive := fun _ => Fr → AS → Md → aq DG) (fun F S m => .ok ⟨.normal, F, S, m⟩ [])
  (fun o _ ih F S m => match eK o with
   | some _ => .err 1011
   | none => cond (eu o)
    (match wanted ops F o with
    | some true => ih (bj F o.dst (B2 m).1) S (B2 m).2
    | some false => ih (bj F o.dst .undef) S m
    | none => .err 1012)
    (aq.bind (one cx K ops o F S) fun r => cond r.1 (.ok ⟨.ei r.2.1, F, r.2.2, m⟩ []) (ih (bj F o.dst r.2.1) r.2.2 m))) l
def sC (c : Code) : Bool :=
 Code.rec (motive := fun _ => Bool) false (fun _ ops _ => ops.toList.any eu) (fun _ _ a b => cond a true b) (fun _ _ _ a b => cond a true b) (fun _ _ b => b) (fun _ b => b)
  (fun _ _ _ _ a b => cond a true b) (fun _ => false) (fun _ b => b) (fun _ => false) (fun _ => false) false (fun _ => false) c
def noK : dH := fun _ _ _ => .err 2300
def iA (cx : Cx) (ih : Code → Fr → AS → aq Out) (c : Code) : Fr → AS → Md → aq DG :=
 Code.rec (motive := fun _ => Fr → AS → Md → aq DG)
  (fun F S m => .ok ⟨.normal, F, S, m⟩ [])
  (fun id ops draw F S m => cond (ops.toList.any eu) (cond draw (.err 2200) (iX cx noK ops.toList ops.toList F S m)) (aq.bind (ih (.region id ops draw) F S) fun o => .ok (o.at m) []))
  (fun _ _ ia ib F S m => aq.bind (ia F S m) fun o => match o.ex with
   | .normal => ib o.F o.S o.m
   | _ => .ok o [])
  (fun x _ _ ia ib F S m => match eval F x with
   | .bool true => ia F S m
   | .bool false => ib F S m
   | _ => .err 2201)
  (fun id _ ib F S m => aq.bind (ib F S m) fun o => match o.ex with
   | .exit j => cond (Nat.beq j id) (.ok ⟨.normal, o.F, o.S, o.m⟩ []) (.ok o [])
   | _ => .ok o [])
  (fun b _ F S m => cond (sC b) (.err 2202) (aq.bind (ih (.loop b) F S) fun o => .ok (o.at m) []))
  (fun _ _ _ _ _ _ _ _ _ => .err 2203)
  (fun id F S m => .ok ⟨.exit id, F, S, m⟩ [])
  (fun _ _ _ _ _ => .err 2204)
  (fun _ _ _ _ => .err 2205)
  (fun _ _ _ _ => .err 2206)
  (fun F S m => .ok ⟨.ret, F, S, m⟩ [])
  (fun _ _ _ _ => .err 2207) c
def uv (e : Ex) (m : Md) : Option Md :=
 match e, m with
 | .normal, .got _ => some .ret
 | .ret, .got _ => some .ret
 | .normal, m => some m
 | .ret, m => some m
 | .ei v, .ret => some (.ei v)
 | _, _ => none
def eo (cx : Cx) (ih : Code → Fr → AS → aq Out) (fn : Func) (F : Fr) (ds : List uq) : Md → AS → aq (AV × AS) :=
 List.rec (motive := fun _ => Md → AS → aq (AV × AS))
  (fun m S => match m with
   | .ret => match cO cx fn F S with
    | some v => .ok (v, S) []
    | none => .err 2001
   | .ei v => .ok (.ei v, S) []
   | .got _ => .err 2010)
  (fun d _ rest m S => match d with
   | .mark id => match S.h.get id with
    | some (.dS (.wh true)) => rest m (jT S id (.wh false))
    | _ => .err 2011
   | .call g as captured => match cx.fns.get g with
    | some gn => match gn.body with
     | some c => aq.bind (iA cx ih c (kx (dB as captured) gn.ntmps) S m) fun o => match o.F.ds with
      | [] => match uv o.ex o.m with
       | some m' => match o.ex with
        | .ei _ => rest m' o.S
        | _ => match cO cx gn o.F o.S with
         | some _ => rest m' o.S
         | none => .err 2012
       | none => .err 2013
      | _ => .err 2014
     | none => .err 2015
    | none => .err 2016) ds
def CU (cx : Cx) (ih : Code → Fr → AS → aq Out) (f : FuncId) (as : List AV) (S : AS) : aq (AV × AS) :=
 match cx.aV.get f with
 | some q => match q as S with
  | some r => .ok r []
  | none => .err 2004
 | none => match cx.fns.get f with
 | some fn => match fn.body with
  | some c => aq.bind (ih c (kx as fn.ntmps) S) fun o => match o.ex with
   | .exit _ => .err 2000
   | .goto _ => .err 2005
   | .ei v => eo cx ih fn o.F o.F.ds (.ei v) o.S
   | _ => eo cx ih fn o.F o.F.ds .ret o.S
  | none => .err 2002
 | none => .err 2003
def zU (S : AS) (n : Nat) : AV → List Nat :=
 Nat.rec (motive := fun _ => AV → List Nat) (fun _ => []) (fun _ ih v =>
  let all : List AV → List Nat := fun l => List.rec (motive := fun _ => List Nat) [] (fun x _ r => dB (ih x) r) l
  match v with
  | .ptr id _ _ _ => match S.h.get id with
   | some (.row cells _ _ _ _) => id :: all cells
   | _ => [id]
  | .slice id _ _ _ _ _ _ => match S.h.get id with
   | some (.row cells _ _ _ _) => id :: all cells
   | _ => [id]
  | .map id => [id]
  | .func _ a b => dB (all a) (all b)
  | .iface _ v => ih v
  | .agg l => all l
  | _ => []) n
def nV (S : AS) (ids : List Nat) : AS := ⟨List.foldl (fun t id => match S.h.get id with | some o => t.set id o | none => t) .leaf ids, S.next⟩
def pK (n : Nat) (a : List AV) : List AV → Bool :=
 List.rec (motive := fun _ => List AV → Bool) (fun b => List.casesOn (motive := fun _ => Bool) b true fun _ _ => false)
  (fun x _ ub b => List.casesOn (motive := fun _ => Bool) b false fun y t => cond (cG n x y) (ub t) false) a
def Eo (a : List aX) : List aX → Bool :=
 List.rec (motive := fun _ => List aX → Bool) (fun b => List.casesOn (motive := fun _ => Bool) b true fun _ _ => false)
  (fun x _ ub b => List.casesOn (motive := fun _ => Bool) b false fun y t => cond (cG 8 x.key y.key && cG 8 x.val y.val && Nat.beq x.born y.born) (ub t) false) a
def sameO (a b : bW) : Bool :=
 match a, b with
 | .row c l t f y, .row c' l' t' f' y' => pK 8 c c' && Nat.beq l l' && Nat.beq t t' && (cond f f' (!f')) && Nat.beq y y'
 | .map es k, .map sL k' => Eo es sL && Nat.beq k k'
 | _, _ => false
def cP (f : AV → Bool) : List AV → Bool
 | [] => true
 | x :: l => f x && cP f l
def bQ : Nat → AV → Bool
 | 0, _ => false
 | n + 1, v => match v with
  | .bool _ => true | .int .. => true | .str _ => true | .dT => true | .aH => true | .gm => true | .jE => true | .bN => true | .sF .. => true
  | .iface _ v => bQ n v
  | .agg cs => cP (bQ n) cs
  | .tuple vs => cP (bQ n) vs
  | _ => false
def pC (S : AS) (r : AV × AS) : Option (AV × Option (Nat × bW)) :=
 match r.1 with
 | .slice id g _ _ _ _ _ => cond (Nat.ble S.next id) (match r.2.h.get id with
  | some (.row cells low top frz ty) => cond (cP (bQ 2) cells && Nat.beq g top && Nat.ble low top) (some (r.1, some (id, .row cells top top frz ty))) none
  | _ => none) none
 | v => cond (bQ 3 v) (some (v, none)) none
def pH (S : AS) (ids : List Nat) (r : AV × AS) : Bool :=
 fZ (fun id => match S.h.get id, r.2.h.get id with
  | some a, some b => sameO a b
  | none, none => true
  | _, _ => false) ids
def sameK2 (a b : AV × Option (Nat × bW)) : Bool :=
 cG 8 a.1 b.1 && (match a.2, b.2 with
  | none, none => true
  | some (i, x), some (j, y) => Nat.beq i j && sameO x y
  | _, _ => false)
def ep (S : AS) (next : Nat) (k : Option (Nat × bW)) : AS :=
 match k with
 | none => ⟨S.h, next⟩
 | some (i, x) => ⟨S.h.set i x, next⟩
def keptAs (S : AS) (k : AV × Option (Nat × bW)) (y : AV × AS) : Bool := match pC S y with | some k' => sameK2 k k' | none => false
def B9 (S : AS) (ids : List Nat) (r : aq (AV × AS)) : aq (AV × AS) :=
 match r with
 | .err n => .err n
 | .ok x xs => match pC S x with
  | none => .err 2400
  | some k => cond (pH S ids x && fZ (pH S ids) xs)
   (cond (fZ (fun y => Nat.beq y.2.next x.2.next) xs) (cond (fZ (keptAs S k) xs)
    (.ok (k.1, ep S x.2.next k.2) []) (.err 2403)) (.err 2402)) (.err 2401)
def nD (cx : Cx) (ih : Code → Fr → AS → aq Out) (f : FuncId) (as : List AV) (S : AS) : aq (AV × AS) :=
 match cx.eh.get f with
 | none => CU cx ih f as S
 | some _ =>
  let ids := List.rec (motive := fun _ => List Nat) [] (fun x _ r => dB (zU S 4 x) r) as
  B9 S ids (CU cx ih f as (nV S ids))
def bu (cx : Cx) (ih : Code → Fr → AS → aq Out) : dH := fun t as S =>
 match t with
 | .fn f => nD cx ih f as S
 | .round id => nv ih id as S
def jn (ih : Code → Fr → AS → aq Out) (b : Code) (n : Nat) : Code → Fr → AS → aq Out :=
 Nat.rec (motive := fun _ => Code → Fr → AS → aq Out) (fun _ _ _ => .err 3003) (fun _ rec c F S =>
  aq.bind (ih c F S) fun o => match o.ex with
   | .goto l => match findLabel b l with
    | some rest => rec rest o.F o.S
    | none => .ok o []
   | _ => .ok o []) n
def lr (ih : Code → Fr → AS → aq Out) (id : Nat) (F : Fr) (r : AV × AS) : aq Out :=
 pP r.1 (fun x => .ok ⟨.ei x, F, r.2⟩ []) (match r.2.h.get id with
  | some (.dS (.loop .busy _ _ _ _ _)) => .err 2500
  | some (.dS (.loop _ j F' ps a b)) => match j with
   | none => .ok ⟨.normal, F, jT r.2 id (.loop .exhausted j F' ps a b)⟩ []
   | some c => ih c F (jT r.2 id (.loop .exhausted j F' ps a b))
  | _ => .err 2501)
def jW (cx : Cx) (ih : Code → Fr → AS → aq Out) (x : Operand) (ps : Array Tmp) (a b : Code) (F : Fr) (S : AS) : aq Out :=
 cond (bZ a && bZ b) (match eval F x with
  | .func (.func g) first captured =>
   aq.bind (bu cx ih (.fn g) (dB first (.obj .yld (Nat.succ S.next) :: captured)) ⟨(S.h.set S.next (.dS (.wh true))).set (Nat.succ S.next) (.dS (.loop .ready none F ps a b)), Nat.succ (Nat.succ S.next)⟩) fun r =>
    lr ih (Nat.succ S.next) ⟨F.t, F.n, .mark S.next :: F.ds⟩ r
  | _ => .err 2502) (.err 2503)
def exec (cx : Cx) (n : Nat) : Code → Fr → AS → aq Out :=
 Nat.rec (motive := fun _ => Code → Fr → AS → aq Out) (fun _ _ _ => .err 3000) (fun n ih c F S =>
  match c with
  | .skip => .ok ⟨.normal, F, S⟩ []
  | .ret => .ok ⟨.ret, F, S⟩ []
  | .exit id => .ok ⟨.exit id, F, S⟩ []
  | .region _ ops false => aq.bind (bM cx (bu cx ih) ops.toList ops.toList F S) fun r => match r.1 with
   | none => .ok ⟨.normal, r.2.1, r.2.2⟩ []
   | some v => .ok ⟨.ei v, r.2.1, r.2.2⟩ []
  | .region _ ops true => aq.bind (cN cx (bu cx ih) ops.toList F S) fun r => .ok ⟨.normal, r.1, r.2⟩ []
  | .seq a b => aq.bind (ih a F S) fun o => match o.ex with
   | .normal => ih b o.F o.S
   | _ => .ok o []
  | .cond x a b => match eval F x with
   | .bool true => ih a F S
   | .bool false => ih b F S
   | _ => .err 3001
  | .block id b => aq.bind (ih b F S) fun o => match o.ex with
   | .exit j => cond (Nat.beq j id) (.ok ⟨.normal, o.F, o.S⟩ []) (.ok o [])
   | _ => .ok o []
  | .loop b => aq.bind (ih b F S) fun o => match o.ex with
   | .normal => ih (.loop b) o.F o.S
   | _ => .ok o []
  | .scope b => jn ih b n b F S
  | .label _ => .ok ⟨.normal, F, S⟩ []
  | .goto l => .ok ⟨.goto l, F, S⟩ []
  | .rangeFunc x ps a b => jW cx ih x ps a b F S
  | .refuse _ => .err 3002) n
def call (cx : Cx) (n : Nat) (f : FuncId) (as : List AV) (S : AS) : aq (AV × AS) := bu cx (exec cx n) (.fn f) as S
end Go.Am
end
