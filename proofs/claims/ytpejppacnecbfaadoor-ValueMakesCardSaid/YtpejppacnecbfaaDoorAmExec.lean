/-
  The abstract machine: regions, code, calls.
-/
import Derived.Test.YtpejppacnecbfaaDoorAmOps
namespace Go.Am
open Go

noncomputable def Res.app {α : Type} (a b : Res α) : Res α :=
  match a with
  | .err n => .err n
  | .ok x xs => match b with
    | .err n => .err n
    | .ok y ys => .ok x (appL xs (y :: ys))
noncomputable def Res.bind {α β : Type} (r : Res α) (f : α → Res β) : Res β :=
  match r with
  | .err n => .err n
  | .ok x xs => match xs with
    | [] => f x
    | y :: ys => Res.app (f x) (List.rec (motive := fun _ => α → Res β) (fun y => f y) (fun z _ ih y => Res.app (f y) (ih z)) ys y)

/-- The one outcome. -/
def Res.sole {α : Type} (r : Res α) : Res α :=
  match r with
  | .ok x [] => .ok x []
  | .ok _ _ => .err 1005
  | .err n => .err n

/-- Is the operation to be run? none: not known. -/
noncomputable def wanted (ops : List Oper) (F : Fr) (o : Oper) : Option Bool :=
  match o.guard with
  | none => some true
  | some (j, want) => match nth j ops with
    | some p => match p.dst with
      | some d => match F.t.get d with
        | some (.bool b) => some (cond want b (!b))
        | some .top => none
        | _ => some false
      | none => some false
    | none => some false
def putD (F : Fr) (dst : Option Tmp) (v : AV) : Fr := match dst with | some d => cond (Nat.blt d F.n) ⟨F.t.set d v, F.n⟩ F | none => F

abbrev CallK := FuncId → List AV → AS → Res (AV × AS)

/-- One operation, in its turn. -/
noncomputable def one (cx : Cx) (K : CallK) (ops : List Oper) (o : Oper) (F : Fr) (S : AS) : Res (AV × AS) :=
  match wanted ops F o with
  | some true => match aop cx F S o with
    | .val v S => .ok (v, S) []
    | .enter f as S => K f as S
    | .err n => .err n
  | some false => .ok (.undef, S) []
  | none => .err 1000

noncomputable def runOps (cx : Cx) (K : CallK) (ops : List Oper) (l : List Oper) : Fr → AS → Res (Fr × AS) :=
  List.rec (motive := fun _ => Fr → AS → Res (Fr × AS)) (fun F S => .ok (F, S) [])
    (fun o _ ih F S => Res.bind (one cx K ops o F S) fun r => ih (putD F o.dst r.1) r.2) l

/-! ### A region that draws its order -/
inductive Cls where
  | pure | read | eff | fresh

noncomputable def clsOf (cx : Cx) (o : Oper) : Cls :=
  match o.op with
  | .move _ => .pure | .assign _ => .pure | .pick .. => .pure | .build .. => .pure | .nilCheck _ => .pure | .unOp .. => .pure
  | .binOp .. => .pure | .makeInterface .. => .pure | .makeFunc .. => .pure | .slice .. => .pure | .fieldAddr .. => .pure | .field .. => .pure
  | .indexAddr .. => .pure | .index .. => .pure | .extract .. => .pure | .typeAssert .. => .pure
  | .load _ (.global _) => .pure
  | .load .. => .read | .lookup .. => .read
  | .alloc _ => .fresh | .box .. => .fresh | .buildSlice .. => .fresh | .makeMap .. => .fresh | .makeSlice .. => .fresh
  | .convert _ dst _ => match und cx dst with
    | some (.int _) => .pure
    | some .string => .read
    | _ => .eff
  | .call { callee := .builtin .len, .. } => .read
  | .call { callee := .builtin .cap, .. } => .pure
  | .call { callee := .builtin .min, .. } => .pure
  | .call { callee := .builtin .max, .. } => .pure
  | _ => .eff
def isEff : Cls → Bool | .eff => true | _ => false
def isFresh : Cls → Bool | .fresh => true | _ => false
def isRead : Cls → Bool | .read => true | _ => false

/-- What is ahead of each operation, as bits. -/
noncomputable def befL (ops : List Oper) : List Nat :=
  (List.rec (motive := fun _ => List Nat → List Nat) (fun acc => acc)
    (fun o _ ih acc => ih (appL acc [List.foldl (fun s (e : Edge) => match e.ground with
      | .textOnly _ => s
      | .gcOnly _ => s
      | _ => forceN (Nat.lor s (Nat.lor (Nat.pow 2 e.on) (match nth e.on acc with | some m => m | none => 0))) fun n => n) 0 o.after.toList])) ops) []
def bit (m i : Nat) : Bool := Nat.beq (Nat.mod (Nat.div m (Nat.pow 2 i)) 2) 1

/-- A row of the plan: the operation, what is ahead of it, its class; its number. -/
structure Row where
  o : Oper
  bef : Nat
  cls : Cls
  i : Nat

noncomputable def rowsL (cx : Cx) (ops : List Oper) : List Row :=
  (List.rec (motive := fun _ => List Nat → Nat → List Row) (fun _ _ => [])
    (fun o _ ih bs i => List.casesOn (motive := fun _ => List Row) bs [] fun b bs => ⟨o, b, clsOf cx o, i⟩ :: ih bs (Nat.succ i)) ops) (befL ops) 0
noncomputable def allL {α : Type} (p : α → Bool) (l : List α) : Bool := List.rec (motive := fun _ => Bool) true (fun x _ ih => cond (p x) ih false) l
noncomputable def filL {α : Type} (p : α → Bool) (l : List α) : List α := List.rec (motive := fun _ => List α) [] (fun x _ ih => cond (p x) (x :: ih) ih) l
/-- a, b: one of the two is ahead of the other. -/
def ordered (a b : Row) : Bool := Nat.beq a.i b.i || bit a.bef b.i || bit b.bef a.i
/-- A fresh block's operation that is ordered with all that acts is taken as one that acts. -/
noncomputable def settle (l : List Row) : List Row :=
  let acts := filL (fun r => isEff r.cls || isFresh r.cls) l
  mapL (fun r => cond (isFresh r.cls && allL (ordered r) acts) { r with cls := .eff } r) l
def opReads (o : Oper) : List Tmp := o.op.operands.toList.filterMap fun | .tmp t => some t | _ => none
noncomputable def seesL (ops : List Oper) (o : Oper) : List Tmp :=
  match o.guard with
  | none => opReads o
  | some (j, _) => match nth j ops with
    | some p => match p.dst with | some d => d :: opReads o | none => opReads o
    | none => opReads o
noncomputable def memN (n : Nat) (l : List Nat) : Bool := List.rec (motive := fun _ => Bool) false (fun m _ ih => cond (Nat.beq n m) true ih) l
/-- Each slot is written once, and read behind that alone; what acts is in a row. -/
noncomputable def planOk (ops : List Oper) (rows : List Row) : Bool :=
  let effs := filL (fun r => isEff r.cls) rows
  allL (fun r => Nat.blt r.bef (Nat.pow 2 r.i)) rows &&
  allL (fun a => allL (ordered a) effs) effs &&
  allL (fun w => match w.o.dst with
    | none => true
    | some d => allL (fun r => cond (memN d (seesL ops r.o)) (bit r.bef w.i || bit w.bef r.i && !isRead r.cls) true && (Nat.beq r.i w.i || !(match r.o.dst with | some e => Nat.beq d e | none => false))) rows) rows

noncomputable def sameVF (n : Nat) : AV → AV → Bool :=
  Nat.rec (motive := fun _ => AV → AV → Bool) (fun _ _ => false) (fun _ ih x y =>
    let sameL : List AV → List AV → Bool := fun a => List.rec (motive := fun _ => List AV → Bool) (fun b => List.casesOn (motive := fun _ => Bool) b true fun _ _ => false)
      (fun x _ ihl b => List.casesOn (motive := fun _ => Bool) b false fun y t => cond (ih x y) (ihl t) false) a
    match x, y with
    | .bool a, .bool b => cond a b (!b)
    | .int j a, .int k b => kindEq j k && eqI a b
    | .str a, .str b => eqS a b
    | .nilp, .nilp => true
    | .ptr a b c d, .ptr e f g h => Nat.beq a e && Nat.beq b f && Nat.beq c g && Nat.beq d h
    | .nils, .nils => true
    | .slice a b c d e f none, .slice a' b' c' d' e' f' none => Nat.beq a a' && Nat.beq b b' && Nat.beq c c' && Nat.beq d d' && Nat.beq e e' && Nat.beq f f'
    | .slice a b c d e f (some g), .slice a' b' c' d' e' f' (some g') => Nat.beq a a' && Nat.beq b b' && Nat.beq c c' && Nat.beq d d' && Nat.beq e e' && Nat.beq f f' && Nat.beq g g'
    | .nilm, .nilm => true
    | .map a, .map b => Nat.beq a b
    | .func (.func f) a b, .func (.func g) c d => Nat.beq f g && sameL a c && sameL b d
    | .nilf, .nilf => true
    | .niface, .niface => true
    | .iface t v, .iface u w => Nat.beq t u && ih v w
    | .agg a, .agg b => sameL a b
    | .tuple a, .tuple b => sameL a b
    | _, _ => false) n

/-- An operation that only gives a value. -/
noncomputable def oneV (cx : Cx) (ops : List Oper) (F : Fr) (S : AS) (o : Oper) : Option AV :=
  match wanted ops F o with
  | some true => match aop cx F S o with
    | .val v _ => some v
    | _ => none
  | some false => some .undef
  | none => none

/-- What waits to be laid: the operation's number, its block's, its object. -/
structure Pend where
  i : Nat
  id : Nat
  obj : AObj

noncomputable def commit (p : Pend → Bool) (ps : List Pend) (S : AS) : AS :=
  List.rec (motive := fun _ => AS → AS) (fun S => S) (fun x _ ih S => ih (cond (p x) ⟨S.h.set x.id x.obj, S.next⟩ S)) ps S

/-- The region in its text's order: the frame, the memory, what waits, the memories ahead of each acting operation (the last one first). -/
noncomputable def runRows (cx : Cx) (K : CallK) (ops : List Oper) (l : List Row) : Fr → AS → List Pend → List AS → Nat → Res (Fr × AS × List AS) :=
  List.rec (motive := fun _ => Fr → AS → List Pend → List AS → Nat → Res (Fr × AS × List AS))
    (fun F S ps snaps _ => .ok (F, commit (fun _ => true) ps S, S :: snaps) [])
    (fun r _ ih F S ps snaps id =>
      match r.cls with
      | .fresh => match wanted ops F r.o with
        | some true => match freshV cx F id r.o.op with
          | some (v, x) => ih (putD F r.o.dst v) S (⟨r.i, id, x⟩ :: ps) snaps (Nat.succ id)
          | none => .err 1001
        | some false => ih (putD F r.o.dst .undef) S ps snaps id
        | none => .err 1002
      | .eff =>
        let S' := commit (fun p => bit r.bef p.i) ps S
        let ps' := filL (fun p => !bit r.bef p.i) ps
        Res.bind (Res.sole (one cx K ops r.o F S')) fun q => ih (putD F r.o.dst q.1) q.2 ps' (S :: snaps) id
      | _ => match oneV cx ops F S r.o with
        | some v => ih (putD F r.o.dst v) S ps snaps id
        | none => .err 1006) l
noncomputable def countL {α : Type} (p : α → Bool) (l : List α) : Nat := List.rec (motive := fun _ => Nat) 0 (fun x _ ih => cond (p x) (Nat.succ ih) ih) l
/-- Does a reading operation give the same at each memory in which it may stand? -/
noncomputable def windowOk (cx : Cx) (ops : List Oper) (rows : List Row) (F : Fr) (snaps : List AS) (r : Row) : Bool :=
  let effs := filL (fun e => isEff e.cls) rows
  let lo := countL (fun e => bit r.bef e.i) effs
  let hi := countL (fun e => !bit e.bef r.i) effs
  let may := takeN (Nat.succ (Nat.sub hi lo)) (dropN lo snaps)
  match may with
  | [_] => true
  | _ => match r.o.dst with
    | some d => cond (Nat.blt d F.n) (match F.t.get d with
      | some v => allL (fun S => match oneV cx ops F S r.o with
        | some u => sameVF 8 v u
        | none => false) may
      | none => false) false
    | none => false
noncomputable def revL {α : Type} (l : List α) : List α := List.rec (motive := fun _ => List α → List α) (fun a => a) (fun x _ ih a => ih (x :: a)) l []
noncomputable def runDrawn (cx : Cx) (K : CallK) (ops : List Oper) (F : Fr) (S : AS) : Res (Fr × AS) :=
  let rows := settle (rowsL cx ops)
  cond (planOk ops rows)
    (let k := countL (fun r => isFresh r.cls) rows
     Res.bind (runRows cx K ops rows F ⟨S.h, Nat.add S.next k⟩ [] [] S.next) fun r =>
       let snaps := revL r.2.2
       cond (allL (fun q => cond (isRead q.cls) (windowOk cx ops rows r.1 snaps q) true) rows) (.ok (r.1, r.2.1) []) (.err 1003))
    (.err 1004)

/-! ### Code -/
inductive Ex where
  | normal | exit (id : Nat) | ret

structure Out where
  ex : Ex
  F : Fr
  S : AS

noncomputable def initF (as : List AV) (n : Nat) : Fr := ⟨T.ofL as 0 .leaf, Nat.add (lenL as) (Nat.sub n (lenL as))⟩
noncomputable def loadV (cx : Cx) (S : AS) (t : TypeId) (x : AV) : Option AV :=
  match x with
  | .ptr id g off lim => match aggOf cx t with
    | some true => match szOf cx t with
      | some n => match rd S id g off n lim with
        | some cs => some (.agg cs)
        | none => none
      | none => none
    | some false => match rd S id g off 1 lim with
      | some [v] => some v
      | _ => none
    | none => none
  | _ => none
noncomputable def resStep (cx : Cx) (F : Fr) (S : AS) (r : ResultVar) (x : Option (List AV)) : Option (List AV) :=
  match x with
  | some vs => match r with
    | .tmp t => some (eval F (.tmp t) :: vs)
    | .cell t ty => match loadV cx S ty (eval F (.tmp t)) with
      | some v => some (v :: vs)
      | none => none
  | none => none
noncomputable def resL (cx : Cx) (F : Fr) (S : AS) (l : List ResultVar) : Option (List AV) := List.rec (motive := fun _ => Option (List AV)) (some []) (fun r _ ih => resStep cx F S r ih) l
noncomputable def resultsV (cx : Cx) (fn : Func) (F : Fr) (S : AS) : Option AV :=
  match resL cx F S fn.results.toList with
  | some [v] => some v
  | some vs => some (.tuple vs)
  | none => none

noncomputable def callF (cx : Cx) (ih : Code → Fr → AS → Res Out) : CallK := fun f as S =>
  match cx.prims.get f with
  | some q => match q as S with
    | some r => .ok r []
    | none => .err 2004
  | none => match cx.fns.get f with
  | some fn => match fn.body with
    | some c => Res.bind (ih c (initF as fn.ntmps) S) fun o => match o.ex with
      | .exit _ => .err 2000
      | _ => match resultsV cx fn o.F o.S with
        | some v => .ok (v, o.S) []
        | none => .err 2001
    | none => .err 2002
  | none => .err 2003

noncomputable def exec (cx : Cx) (n : Nat) : Code → Fr → AS → Res Out :=
  Nat.rec (motive := fun _ => Code → Fr → AS → Res Out) (fun _ _ _ => .err 3000) (fun _ ih c F S =>
    match c with
    | .skip => .ok ⟨.normal, F, S⟩ []
    | .ret => .ok ⟨.ret, F, S⟩ []
    | .exit id => .ok ⟨.exit id, F, S⟩ []
    | .region _ ops false => Res.bind (runOps cx (callF cx ih) ops.toList ops.toList F S) fun r => .ok ⟨.normal, r.1, r.2⟩ []
    | .region _ ops true => Res.bind (runDrawn cx (callF cx ih) ops.toList F S) fun r => .ok ⟨.normal, r.1, r.2⟩ []
    | .seq a b => Res.bind (ih a F S) fun o => match o.ex with
      | .normal => ih b o.F o.S
      | _ => .ok o []
    | .cond x a b => match eval F x with
      | .bool true => ih a F S
      | .bool false => ih b F S
      | _ => .err 3001
    | .block id b => Res.bind (ih b F S) fun o => match o.ex with
      | .exit j => cond (Nat.beq j id) (.ok ⟨.normal, o.F, o.S⟩ []) (.ok o [])
      | _ => .ok o []
    | .loop b => Res.bind (ih b F S) fun o => match o.ex with
      | .normal => ih (.loop b) o.F o.S
      | _ => .ok o []
    | _ => .err 3002) n

noncomputable def call (cx : Cx) (n : Nat) : CallK := callF cx (exec cx n)

end Go.Am
