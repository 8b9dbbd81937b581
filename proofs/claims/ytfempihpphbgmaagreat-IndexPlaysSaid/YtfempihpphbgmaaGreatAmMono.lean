/-
  The abstract machine: more fuel gives the same answer.
-/
import Derived.Test.YtfempihpphbgmaaGreatAmTop
namespace Go.Am
open Go
def aq.Le {α : Type} (r r' : aq α) : Prop := ∀ x xs, r = .ok x xs → r' = .ok x xs
theorem aq.Le.refl {α : Type} (r : aq α) : aq.Le r r := fun _ _ h => h
theorem aq.Le.trans {α : Type} {a b c : aq α} (h : aq.Le a b) (k : aq.Le b c) : aq.Le a c := fun x xs e => k x xs (h x xs e)
theorem aq.Le.err {α : Type} (n : Nat) (r : aq α) : aq.Le (.err n) r := fun _ _ h => by cases h
theorem aq.Le.app {α : Type} {a a' b b' : aq α} (h : aq.Le a a') (k : aq.Le b b') : aq.Le (aq.app a b) (aq.app a' b') := by
 intro x xs e
 cases a with
 | err n => cases e
 | ok y ys =>
  cases b with
  | err n => cases e
  | ok z zs =>
   have h1 := h y ys rfl;have h2 := k z zs rfl;subst h1 h2;exact e
theorem aq.Le.bind {α β : Type} {r r' : aq α} {f f' : α → aq β} (h : aq.Le r r') (k : ∀ x, aq.Le (f x) (f' x)) : aq.Le (aq.bind r f) (aq.bind r' f') := by
 cases r with
 | err n => exact .err _ _
 | ok x xs =>
  have h1 := h x xs rfl;subst h1
  cases xs with
  | nil => exact k x
  | cons y ys =>
   have e : ∀ g : α → aq β, aq.bind (.ok x (y :: ys)) g = aq.app (g x) (List.rec (motive := fun _ => α → aq β) (fun y => g y) (fun z _ ih y => aq.app (g y) (ih z)) ys y) := fun g => rfl
   rw [e, e];refine .app (k x) ?_;clear e h
   induction ys generalizing y with
   | nil => exact k y
   | cons z zs ih => exact .app (k y) (ih z)
theorem aq.Le.uY {α : Type} {r r' : aq α} (h : aq.Le r r') : aq.Le (aq.uY r) (aq.uY r') := by
 cases r with
 | err n => exact .err _ _
 | ok x xs => rw [h x xs rfl]; exact .refl _
def KLe (K K' : dH) : Prop := ∀ f as S, aq.Le (K f as S) (K' f as S)
theorem one_le {cx : Cx} {K K' : dH} (h : KLe K K') (ops : List Oper) (o : Oper) (F : Fr) (S : AS) : aq.Le (one cx K ops o F S) (one cx K' ops o F S) := by
 unfold one
 split
 ·split
  ·exact .refl _
  ·exact .bind (h _ _ _) fun _ => .refl _
  ·exact .bind (h _ _ _) fun _ => .refl _
  ·exact .refl _
  ·exact .refl _
  ·exact .refl _
 ·exact .refl _
 ·exact .refl _
theorem uL {α : Type} {b : Bool} {p k k' : aq α} (h : aq.Le k k') : aq.Le (cond b p k) (cond b p k') := by
 cases b <;> first | exact h | exact .refl _
theorem yH {α : Type} {v : AV} {p : AV → aq α} {k k' : aq α} (h : aq.Le k k') : aq.Le (pP v p k) (pP v p k') := by
 cases v <;> first | exact h | exact .refl _
theorem gK {cx : Cx} {K K' : dH} (h : KLe K K') (ops : List Oper) : ∀ (l : List Oper) (F : Fr) (S : AS), aq.Le (bM cx K ops l F S) (bM cx K' ops l F S)
 | [], F, S => .refl _
 | o :: l, F, S => by
  show aq.Le (match eK o with
   | none => aq.bind (one cx K ops o F S) fun r => cond r.1 (.ok (some r.2.1, F, r.2.2) []) (bM cx K ops l (bj F o.dst r.2.1) r.2.2)
   | some c => match wanted ops F o with
    | some true => match mD F c with
     | some d => bM cx K ops l (bj ⟨F.t, F.n, d :: F.ds⟩ o.dst .undef) S
     | none => .err 1009
    | some false => bM cx K ops l (bj F o.dst .undef) S
    | none => .err 1010) (match eK o with
   | none => aq.bind (one cx K' ops o F S) fun r => cond r.1 (.ok (some r.2.1, F, r.2.2) []) (bM cx K' ops l (bj F o.dst r.2.1) r.2.2)
   | some c => match wanted ops F o with
    | some true => match mD F c with
     | some d => bM cx K' ops l (bj ⟨F.t, F.n, d :: F.ds⟩ o.dst .undef) S
     | none => .err 1009
    | some false => bM cx K' ops l (bj F o.dst .undef) S
    | none => .err 1010)
  split
  ·exact .bind (one_le h ops o F S) fun r => uL (gK h ops l _ _)
  ·split
   ·split
    ·exact gK h ops l _ _
    ·exact .refl _
   ·exact gK h ops l _ _
   ·exact .refl _
theorem gk {cx : Cx} {K K' : dH} (h : KLe K K') (ops : List Oper) : ∀ (l : List Row) (F : Fr) (S : AS) (ps : List dC) (sn : List AS) (id : Nat), aq.Le (bp cx K ops l F S ps sn id) (bp cx K' ops l F S ps sn id)
 | [], F, S, ps, sn, id => .refl _
 | r :: l, F, S, ps, sn, id => by
  have e : ∀ K, bp cx K ops (r :: l) F S ps sn id = (match r.cls with
   | .fresh => match wanted ops F r.o with
    | some true => match aI cx F id r.o.op with
     | some (v, x) => bp cx K ops l (bj F r.o.dst v) S (⟨r.i, id, x⟩ :: ps) sn (Nat.succ id)
     | none => .err 1001
    | some false => bp cx K ops l (bj F r.o.dst .undef) S ps sn id
    | none => .err 1002
   | .xH =>
    aq.bind (aq.uY (one cx K ops r.o F (bf (fun p => bit r.eE p.i) ps S))) fun q => cond q.1 (.err 1007) (bp cx K ops l (bj F r.o.dst q.2.1) q.2.2 (gv (fun p => !bit r.eE p.i) ps) (S :: sn) id)
   | _ => match eG cx ops F S r.o with
    | some v => bp cx K ops l (bj F r.o.dst v) S ps sn id
    | none => .err 1006) := fun K => rfl
  rw [e, e]
  cases r.cls with
  | fresh =>
   simp only []
   split
   ·split
    ·exact gk h ops l _ _ _ _ _
    ·exact .refl _
   ·exact gk h ops l _ _ _ _ _
   ·exact .refl _
  | xH => exact .bind (.uY (one_le h ops _ _ _)) fun q => uL (gk h ops l _ _ _ _ _)
  | pure =>
   simp only []
   split
   ·exact gk h ops l _ _ _ _ _
   ·exact .refl _
  | read =>
   simp only []
   split
   ·exact gk h ops l _ _ _ _ _
   ·exact .refl _
theorem tq {cx : Cx} {K K' : dH} (h : KLe K K') (ops : List Oper) (F : Fr) (S : AS) : aq.Le (cN cx K ops F S) (cN cx K' ops F S) := by
 unfold cN;simp only []
 cases mh ops (settle (cV cx ops)) with
 | false => exact .refl _
 | true =>
  simp only [cond_true];exact .bind (gk h ops _ _ _ _ _ _) fun r => .refl _
theorem aq.Le.code {ih jj : Code → Fr → AS → aq Out} (h : ∀ c F S, aq.Le (ih c F S) (jj c F S)) {m : Md} {c : Code} {F : Fr} {S : AS} : aq.Le (aq.bind (ih c F S) fun o => (.ok (o.at m) [] : aq DG)) (aq.bind (jj c F S) fun o => .ok (o.at m) []) := .bind (h c F S) fun _ => .refl _
theorem execS_le {cx : Cx} {ih jj : Code → Fr → AS → aq Out} (h : ∀ c F S, aq.Le (ih c F S) (jj c F S)) : ∀ (c : Code) (F : Fr) (S : AS) (m : Md), aq.Le (iA cx ih c F S m) (iA cx jj c F S m) := by
 intro c
 induction c with
 | region id ops draw =>
  intro F S m;show aq.Le (cond (ops.toList.any eu) (cond draw (.err 2200) (iX cx noK ops.toList ops.toList F S m)) (aq.bind (ih (.region id ops draw) F S) fun o => .ok (o.at m) []))
   (cond (ops.toList.any eu) (cond draw (.err 2200) (iX cx noK ops.toList ops.toList F S m)) (aq.bind (jj (.region id ops draw) F S) fun o => .ok (o.at m) []))
  cases ops.toList.any eu with
  | true => exact .refl _
  | false => exact .code h
 | seq x y ihx ihy =>
  intro F S m;show aq.Le (aq.bind (iA cx ih x F S m) fun o => match o.ex with
   | .normal => iA cx ih y o.F o.S o.m
   | _ => .ok o []) (aq.bind (iA cx jj x F S m) fun o => match o.ex with
   | .normal => iA cx jj y o.F o.S o.m
   | _ => .ok o [])
  refine .bind (ihx F S m) fun o => ?_
  cases o.ex <;> first | exact ihy _ _ _ | exact .refl _
 | cond x y z ihy ihz =>
  intro F S m;show aq.Le (match eval F x with
   | .bool true => iA cx ih y F S m
   | .bool false => iA cx ih z F S m
   | _ => .err 2201) (match eval F x with
   | .bool true => iA cx jj y F S m
   | .bool false => iA cx jj z F S m
   | _ => .err 2201)
  split
  ·exact ihy _ _ _
  ·exact ihz _ _ _
  ·exact .refl _
 | block id b rE => intro F S m; exact .bind (rE F S m) fun _ => .refl _
 | loop b _ =>
  intro F S m;show aq.Le (cond (sC b) (.err 2202) (aq.bind (ih (.loop b) F S) fun o => .ok (o.at m) [])) (cond (sC b) (.err 2202) (aq.bind (jj (.loop b) F S) fun o => .ok (o.at m) []))
  cases sC b with
  | true => exact .refl _
  | false => exact .code h
 | _ => intros; exact .refl _
theorem lD {cx : Cx} {ih jj : Code → Fr → AS → aq Out} (h : ∀ c F S, aq.Le (ih c F S) (jj c F S)) (fn : Func) (F : Fr) : ∀ (ds : List uq) (m : Md) (S : AS), aq.Le (eo cx ih fn F ds m S) (eo cx jj fn F ds m S)
 | [], m, S => .refl _
 | d :: ds, m, S => by
  have e : ∀ ih, eo cx ih fn F (d :: ds) m S = (match d with
   | .mark id => match S.h.get id with
    | some (.dS (.wh true)) => eo cx ih fn F ds m (jT S id (.wh false))
    | _ => .err 2011
   | .call g as captured => match cx.fns.get g with
    | some gn => match gn.body with
     | some c => aq.bind (iA cx ih c (kx (dB as captured) gn.ntmps) S m) fun o => match o.F.ds with
      | [] => match uv o.ex o.m with
       | some m' => match o.ex with
        | .ei _ => eo cx ih fn F ds m' o.S
        | _ => match cO cx gn o.F o.S with
         | some _ => eo cx ih fn F ds m' o.S
         | none => .err 2012
       | none => .err 2013
      | _ => .err 2014
     | none => .err 2015
    | none => .err 2016) := fun ih => rfl
  rw [e, e]
  split
  ·split
   ·exact lD h fn F ds _ _
   ·exact .refl _
  ·split
   ·split
    ·refine .bind (execS_le h _ _ _ _) fun o => ?_
     split
     ·split
      ·split
       ·exact lD h fn F ds _ _
       ·split
        ·exact lD h fn F ds _ _
        ·exact .refl _
      ·exact .refl _
     ·exact .refl _
    ·exact .refl _
   ·exact .refl _
theorem fnF_le {cx : Cx} {ih jj : Code → Fr → AS → aq Out} (h : ∀ c F S, aq.Le (ih c F S) (jj c F S)) (f : FuncId) (as : List AV) (S : AS) : aq.Le (CU cx ih f as S) (CU cx jj f as S) := by
 unfold CU
 split
 ·exact .refl _
 ·split
  ·split
   ·refine .bind (h _ _ _) fun o => ?_
    split
    ·exact .refl _
    ·exact .refl _
    ·exact lD h _ _ _ _ _
    ·exact lD h _ _ _ _ _
   ·exact .refl _
  ·exact .refl _
theorem B8 {S : AS} {ids : List Nat} {r r' : aq (AV × AS)} (h : aq.Le r r') : aq.Le (B9 S ids r) (B9 S ids r') := by
 cases r with
 | err n => exact .err _ _
 | ok x xs => rw [h x xs rfl]; exact .refl _
theorem yu {ih jj : Code → Fr → AS → aq Out} (h : ∀ c F S, aq.Le (ih c F S) (jj c F S)) (id : Nat) (as : List AV) (S : AS) : aq.Le (nv ih id as S) (nv jj id as S) := by
 unfold nv
 split
 ·split
  ·refine .bind (h _ _ _) fun o => ?_
   split
   ·split
    ·exact .bind (h _ _ _) fun _ => .refl _
    ·exact .refl _
   ·exact .refl _
  ·exact .refl _
 ·exact .refl _
theorem wE {cx : Cx} {ih jj : Code → Fr → AS → aq Out} (h : ∀ c F S, aq.Le (ih c F S) (jj c F S)) : KLe (bu cx ih) (bu cx jj) := by
 intro t as S
 cases t with
 | round id => exact yu h id as S
 | fn f =>
  show aq.Le (nD cx ih f as S) (nD cx jj f as S);unfold nD
  cases cx.eh.get f with
  | none => exact fnF_le h f as S
  | some u => exact B8 (fnF_le h f as _)
theorem scopeF_le {ih jj : Code → Fr → AS → aq Out} (h : ∀ c F S, aq.Le (ih c F S) (jj c F S)) (b : Code) : ∀ (n : Nat) (c : Code) (F : Fr) (S : AS), aq.Le (jn ih b n c F S) (jn jj b (n + 1) c F S) := by
 intro n
 induction n with
 | zero => intro c F S; exact .err _ _
 | succ n rec =>
  intro c F S;show aq.Le (aq.bind (ih c F S) fun o => match o.ex with
   | .goto l => match findLabel b l with
    | some rest => jn ih b n rest o.F o.S
    | none => .ok o []
   | _ => .ok o []) (aq.bind (jj c F S) fun o => match o.ex with
   | .goto l => match findLabel b l with
    | some rest => jn jj b (n + 1) rest o.F o.S
    | none => .ok o []
   | _ => .ok o [])
  refine .bind (h _ _ _) fun o => ?_
  split
  ·split
   ·exact rec _ _ _
   ·exact .refl _
  ·exact .refl _
theorem rangeF_le {cx : Cx} {ih jj : Code → Fr → AS → aq Out} (h : ∀ c F S, aq.Le (ih c F S) (jj c F S)) (x : Operand) (ps : Array Tmp) (a b : Code) (F : Fr) (S : AS) : aq.Le (jW cx ih x ps a b F S) (jW cx jj x ps a b F S) := by
 unfold jW
 cases (bZ a && bZ b) with
 | false => exact .refl _
 | true =>
  simp only [cond_true]
  split
  ·refine .bind (wE h _ _ _) fun r => ?_
   unfold lr;refine yH ?_
   split
   ·exact .refl _
   ·split
    ·exact .refl _
    ·exact h _ _ _
   ·exact .refl _
  ·exact .refl _
theorem exec_le {cx : Cx} : ∀ (n : Nat) (c : Code) (F : Fr) (S : AS), aq.Le (exec cx n c F S) (exec cx (n + 1) c F S) := by
 intro n
 induction n with
 | zero => intro c F S; exact .err _ _
 | succ n ih =>
  intro c F S;have hK := wE (cx := cx) ih
  cases c with
  | skip => exact .refl _
  | ret => exact .refl _
  | exit id => exact .refl _
  | region id ops draw =>
   cases draw with
   | false =>
    show aq.Le (aq.bind (bM cx (bu cx (exec cx n)) ops.toList ops.toList F S) _) (aq.bind (bM cx (bu cx (exec cx (n + 1))) ops.toList ops.toList F S) _);exact .bind (gK hK _ _ _ _) fun r => .refl _
   | true =>
    show aq.Le (aq.bind (cN cx (bu cx (exec cx n)) ops.toList F S) _) (aq.bind (cN cx (bu cx (exec cx (n + 1))) ops.toList F S) _);exact .bind (tq hK _ _ _) fun r => .refl _
  | seq x y =>
   show aq.Le (aq.bind (exec cx n x F S) fun o => match o.ex with
    | .normal => exec cx n y o.F o.S
    | _ => .ok o []) (aq.bind (exec cx (n + 1) x F S) fun o => match o.ex with
    | .normal => exec cx (n + 1) y o.F o.S
    | _ => .ok o [])
   refine .bind (ih _ _ _) fun o => ?_
   cases o.ex <;> first | exact ih _ _ _ | exact .refl _
  | cond x y z =>
   show aq.Le (match eval F x with
    | .bool true => exec cx n y F S
    | .bool false => exec cx n z F S
    | _ => .err 3001) (match eval F x with
    | .bool true => exec cx (n + 1) y F S
    | .bool false => exec cx (n + 1) z F S
    | _ => .err 3001)
   split
   ·exact ih _ _ _
   ·exact ih _ _ _
   ·exact .refl _
  | block id b =>
   exact .bind (ih b F S) fun o => .refl _
  | loop b =>
   show aq.Le (aq.bind (exec cx n b F S) fun o => match o.ex with
    | .normal => exec cx n (.loop b) o.F o.S
    | _ => .ok o []) (aq.bind (exec cx (n + 1) b F S) fun o => match o.ex with
    | .normal => exec cx (n + 1) (.loop b) o.F o.S
    | _ => .ok o [])
   refine .bind (ih _ _ _) fun o => ?_
   cases o.ex <;> first | exact ih _ _ _ | exact .refl _
  | rangeFunc f p x y => exact rangeF_le ih f p x y F S
  | scope b => exact scopeF_le ih b n b F S
  | label l => exact .refl _
  | goto l => exact .refl _
  | refuse s => exact .refl _
theorem iQ {cx : Cx} {n m : Nat} (h : n ≤ m) (c : Code) (F : Fr) (S : AS) : aq.Le (exec cx n c F S) (exec cx m c F S) := by
 induction h with
 | refl => exact .refl _
 | step _ ih => exact ih.trans (exec_le _ c F S)
theorem eD {cx : Cx} {n m : Nat} (h : n ≤ m) : KLe (bu cx (exec cx n)) (bu cx (exec cx m)) := wE fun c F S => iQ h c F S
theorem aq.Le.all {α : Type} {r r' : aq α} (h : aq.Le r r') {p : α → Prop} (k : r.cR p) : r'.cR p := by
 cases r with
 | err n => exact k.elim
 | ok x xs => rw [h x xs rfl]; exact k
end Go.Am
