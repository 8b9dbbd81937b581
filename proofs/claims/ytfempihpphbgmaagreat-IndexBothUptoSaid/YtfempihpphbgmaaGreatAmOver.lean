/-
  The abstract machine: a function whose contract comes to be known later. What was shown without it stays so with it.
-/
import Derived.Test.YtfempihpphbgmaaGreatAmKept
namespace Go.Am
open Go
set_option linter.unusedVariables false
def Cx.wp (cx : Cx) (p : T (List AV → AS → Option (AV × AS))) : Cx := ⟨cx.tys, cx.fns, cx.eqs, cx.exts, p, cx.globs, cx.pures⟩
def PLe (p p' : T (List AV → AS → Option (AV × AS))) : Prop := ∀ f, match p.get f with
 | none => p'.get f = none
 | some q => ∀ as S r, q as S = some r → ∃ q', p'.get f = some q' ∧ q' as S = some r
def hole (_ : List AV) (_ : AS) : Option (AV × AS) := none
section
variable {cx : Cx} {p : T (List AV → AS → Option (AV × AS))}
theorem one_ov {K : CallK} {ops : List Oper} {o : Oper} {F : Fr} {S : AS} : one (cx.wp p) K ops o F S = one cx K ops o F S := rfl
theorem runOps_ov {K : CallK} {ops l : List Oper} {F : Fr} {S : AS} : runOps (cx.wp p) K ops l F S = runOps cx K ops l F S := rfl
theorem rowsL_ov {ops : List Oper} : rowsL (cx.wp p) ops = rowsL cx ops := rfl
theorem oneV_ov {ops : List Oper} {F : Fr} {S : AS} {o : Oper} : oneV (cx.wp p) ops F S o = oneV cx ops F S o := rfl
theorem freshV_ov {F : Fr} {id : Nat} {o : Op} : freshV (cx.wp p) F id o = freshV cx F id o := rfl
theorem runRows_ov {K : CallK} {ops : List Oper} : ∀ (l : List Row) (F : Fr) (S : AS) (ps : List Pend) (sn : List AS) (id : Nat), runRows (cx.wp p) K ops l F S ps sn id = runRows cx K ops l F S ps sn id
 | [], F, S, ps, sn, id => rfl
 | r :: l, F, S, ps, sn, id => by
  have e : ∀ cx, runRows cx K ops (r :: l) F S ps sn id = (match r.cls with
   | .fresh => match wanted ops F r.o with
    | some true => match freshV cx F id r.o.op with
     | some (v, x) => runRows cx K ops l (putD F r.o.dst v) S (⟨r.i, id, x⟩ :: ps) sn (Nat.succ id)
     | none => .err 1001
    | some false => runRows cx K ops l (putD F r.o.dst .undef) S ps sn id
    | none => .err 1002
   | .eff =>
    Res.bind (Res.sole (one cx K ops r.o F (commit (fun p => bit r.bef p.i) ps S))) fun q => cond q.1 (.err 1007) (runRows cx K ops l (putD F r.o.dst q.2.1) q.2.2 (filL (fun p => !bit r.bef p.i) ps) (S :: sn) id)
   | _ => match oneV cx ops F S r.o with
    | some v => runRows cx K ops l (putD F r.o.dst v) S ps sn id
    | none => .err 1006) := fun cx => rfl
  rw [e, e]
  simp only [runRows_ov l, oneV_ov, freshV_ov, one_ov]
theorem windowOk_ov {ops : List Oper} {rows : List Row} {F : Fr} {sn : List AS} {r : Row} : windowOk (cx.wp p) ops rows F sn r = windowOk cx ops rows F sn r := rfl
theorem runDrawn_ov {K : CallK} {ops : List Oper} {F : Fr} {S : AS} : runDrawn (cx.wp p) K ops F S = runDrawn cx K ops F S := by
 unfold runDrawn
 simp only [rowsL_ov, runRows_ov, windowOk_ov]
theorem fnF_over (hp : PLe cx.prims p) {ih ih' : Code → Fr → AS → Res Out} (h : ∀ c F S, Res.Le (ih c F S) (ih' c F S)) (f : FuncId) (as : List AV) (S : AS) : Res.Le (fnF cx ih f as S) (fnF (cx.wp p) ih' f as S) := by
 have e : fnF (cx.wp p) ih' f as S = (match p.get f with
  | some q => match q as S with
   | some r => .ok r []
   | none => .err 2004
  | none => match cx.fns.get f with
   | some fn => match fn.body with
    | some c => Res.bind (ih' c (initF as fn.ntmps) S) fun o => match o.ex with
     | .exit _ => .err 2000
     | .goto _ => .err 2005
     | .pan v => leaveL cx ih' fn o.F o.F.ds (.pan v) o.S
     | _ => leaveL cx ih' fn o.F o.F.ds .ret o.S
    | none => .err 2002
   | none => .err 2003) := rfl
 have hf := hp f
 have hle := fnF_le (cx := cx) h f as S
 rw [e]
 unfold fnF at hle ⊢
 cases hq : cx.prims.get f with
 | none =>
  rw [hq] at hf
  simp only [hq] at hle
  rw [hf]
  exact hle
 | some q =>
  rw [hq] at hf
  simp only []
  cases hr : q as S with
  | none => exact .err _ _
  | some r =>
   obtain ⟨q', h1, h2⟩ := hf as S r hr
   rw [h1]
   simp only [h2]
   exact .refl _
theorem callF_over (hp : PLe cx.prims p) {ih ih' : Code → Fr → AS → Res Out} (h : ∀ c F S, Res.Le (ih c F S) (ih' c F S)) : KLe (callF cx ih) (callF (cx.wp p) ih') := by
 intro t as S
 cases t with
 | round id => exact roundF_le h id as S
 | fn f =>
  have e : callF (cx.wp p) ih' (.fn f) as S = (match cx.pures.get f with
   | none => fnF (cx.wp p) ih' f as S
   | some _ => pureR S (List.rec (motive := fun _ => List Nat) [] (fun x _ r => appL (reachF S 4 x) r) as) (fnF (cx.wp p) ih' f as (cutS S (List.rec (motive := fun _ => List Nat) [] (fun x _ r => appL (reachF S 4 x) r) as)))) := rfl
  rw [e]
  show Res.Le (pureF cx ih f as S) _
  unfold pureF
  cases cx.pures.get f with
  | none => exact fnF_over hp h f as S
  | some u => exact pureR_le (fnF_over hp h f as _)
theorem rangeF_over (hp : PLe cx.prims p) {ih ih' : Code → Fr → AS → Res Out} (h : ∀ c F S, Res.Le (ih c F S) (ih' c F S)) (x : Operand) (ps : Array Tmp) (a b : Code) (F : Fr) (S : AS) : Res.Le (rangeF cx ih x ps a b F S) (rangeF (cx.wp p) ih' x ps a b F S) := by
 unfold rangeF
 cases (plainC a && plainC b) with
 | false => exact .refl _
 | true =>
  simp only [cond_true]
  split
  ·refine .bind (callF_over hp h _ _ _) fun r => ?_
   unfold rangeEnd
   refine notPan_le ?_
   split
   ·exact .refl _
   ·split
    ·exact .refl _
    ·exact h _ _ _
   ·exact .refl _
  ·exact .refl _
theorem scopeF_over {ih ih' : Code → Fr → AS → Res Out} (h : ∀ c F S, Res.Le (ih c F S) (ih' c F S)) (b : Code) : ∀ (n : Nat) (c : Code) (F : Fr) (S : AS), Res.Le (scopeF ih b n c F S) (scopeF ih' b n c F S) := by
 intro n
 induction n with
 | zero => intro c F S; exact .err _ _
 | succ n rec =>
  intro c F S
  show Res.Le (Res.bind (ih c F S) fun o => match o.ex with
   | .goto l => match findLabel b l with
    | some rest => scopeF ih b n rest o.F o.S
    | none => .ok o []
   | _ => .ok o []) (Res.bind (ih' c F S) fun o => match o.ex with
   | .goto l => match findLabel b l with
    | some rest => scopeF ih' b n rest o.F o.S
    | none => .ok o []
   | _ => .ok o [])
  refine .bind (h _ _ _) fun o => ?_
  split
  ·split
   ·exact rec _ _ _
   ·exact .refl _
  ·exact .refl _
theorem exec_over (hp : PLe cx.prims p) : ∀ (n : Nat) (c : Code) (F : Fr) (S : AS), Res.Le (exec cx n c F S) (exec (cx.wp p) n c F S) := by
 intro n
 induction n with
 | zero => intro c F S; exact .err _ _
 | succ n ih =>
  intro c F S
  have hK := callF_over hp ih
  cases c with
  | skip => exact .refl _
  | ret => exact .refl _
  | exit id => exact .refl _
  | region id ops draw =>
   cases draw with
   | false =>
    show Res.Le (Res.bind (runOps cx (callF cx (exec cx n)) ops.toList ops.toList F S) _) (Res.bind (runOps (cx.wp p) (callF (cx.wp p) (exec (cx.wp p) n)) ops.toList ops.toList F S) _)
    rw [runOps_ov]
    exact .bind (runOps_le hK _ _ _ _) fun r => .refl _
   | true =>
    show Res.Le (Res.bind (runDrawn cx (callF cx (exec cx n)) ops.toList F S) _) (Res.bind (runDrawn (cx.wp p) (callF (cx.wp p) (exec (cx.wp p) n)) ops.toList F S) _)
    rw [runDrawn_ov]
    exact .bind (runDrawn_le hK _ _ _) fun r => .refl _
  | seq x y =>
   show Res.Le (Res.bind (exec cx n x F S) fun o => match o.ex with
    | .normal => exec cx n y o.F o.S
    | _ => .ok o []) (Res.bind (exec (cx.wp p) n x F S) fun o => match o.ex with
    | .normal => exec (cx.wp p) n y o.F o.S
    | _ => .ok o [])
   refine .bind (ih _ _ _) fun o => ?_
   cases o.ex <;> first | exact ih _ _ _ | exact .refl _
  | cond x y z =>
   show Res.Le (match eval F x with
    | .bool true => exec cx n y F S
    | .bool false => exec cx n z F S
    | _ => .err 3001) (match eval F x with
    | .bool true => exec (cx.wp p) n y F S
    | .bool false => exec (cx.wp p) n z F S
    | _ => .err 3001)
   split
   ·exact ih _ _ _
   ·exact ih _ _ _
   ·exact .refl _
  | block id b =>
   exact .bind (ih b F S) fun o => .refl _
  | loop b =>
   show Res.Le (Res.bind (exec cx n b F S) fun o => match o.ex with
    | .normal => exec cx n (.loop b) o.F o.S
    | _ => .ok o []) (Res.bind (exec (cx.wp p) n b F S) fun o => match o.ex with
    | .normal => exec (cx.wp p) n (.loop b) o.F o.S
    | _ => .ok o [])
   refine .bind (ih _ _ _) fun o => ?_
   cases o.ex <;> first | exact ih _ _ _ | exact .refl _
  | rangeFunc f ps x y => exact rangeF_over hp ih f ps x y F S
  | scope b => exact scopeF_over ih b n b F S
  | label l => exact .refl _
  | goto l => exact .refl _
  | refuse s => exact .refl _
theorem call_over (hp : PLe cx.prims p) (n : Nat) (f : FuncId) (as : List AV) (S : AS) : Res.Le (call cx n f as S) (call (cx.wp p) n f as S) := callF_over hp (exec_over hp n) (.fn f) as S
theorem CallW.over (hp : PLe cx.prims p) {f : FuncId} {as : List AV} {S : AS} {Q : AV → AS → Prop} (h : CallW cx f as S Q) : CallW (cx.wp p) f as S Q := by
 obtain ⟨n, h⟩ := h
 exact ⟨n, (call_over hp n f as S).one h⟩
theorem CallE.over (hp : PLe cx.prims p) {f : FuncId} {as : List AV} {S : AS} {Q : AV → AS → Prop} (h : CallE cx f as S Q) : CallE (cx.wp p) f as S Q := by
 obtain ⟨n, h⟩ := h
 exact ⟨n, (call_over hp n f as S).all h⟩
end
theorem mkCx_wp {P : Program} {A A' : Ask} (h1 : A'.eqs = A.eqs) (h2 : A'.exts = A.exts) (h3 : A'.globs = A.globs) (h4 : A'.pures = A.pures) : (mkCx P A).wp (mkCx P A').prims = mkCx P A' := by
 unfold mkCx Cx.wp
 simp only [h1, h2, h3, h4]
theorem CallW.to {P : Program} {A A' : Ask} (h1 : A'.eqs = A.eqs) (h2 : A'.exts = A.exts) (h3 : A'.globs = A.globs) (h4 : A'.pures = A.pures) (hp : PLe (mkCx P A).prims (mkCx P A').prims) {f : FuncId} {vs : List AV} {S : AS} {Q : AV → AS → Prop} (h : CallW (mkCx P A) f vs S Q) : CallW (mkCx P A') f vs S Q := by
 rw [← mkCx_wp h1 h2 h3 h4]
 exact h.over hp
theorem CallE.to {P : Program} {A A' : Ask} (h1 : A'.eqs = A.eqs) (h2 : A'.exts = A.exts) (h3 : A'.globs = A.globs) (h4 : A'.pures = A.pures) (hp : PLe (mkCx P A).prims (mkCx P A').prims) {f : FuncId} {vs : List AV} {S : AS} {Q : AV → AS → Prop} (h : CallE (mkCx P A) f vs S Q) : CallE (mkCx P A') f vs S Q := by
 rw [← mkCx_wp h1 h2 h3 h4]
 exact h.over hp
theorem PLe.set {p p' : T (List AV → AS → Option (AV × AS))} (h : PLe p p') (f : Nat) (q q' : List AV → AS → Option (AV × AS)) (hq : ∀ as S r, q as S = some r → q' as S = some r) : PLe (p.set f q) (p'.set f q') := by
 intro g
 by_cases e : g = f
 ·subst e
  rw [gsS]
  exact fun as S r hr => ⟨q', gsS _ _ _, hq as S r hr⟩
 ·rw [gsN _ _ e, gsN _ _ e]
  exact h g
theorem PLe.refl (p : T (List AV → AS → Option (AV × AS))) : PLe p p := fun f => by
 cases h : p.get f with
 | none => rfl
 | some q => exact fun as S r hr => ⟨q, rfl, hr⟩
theorem PLe.lose {p p' : T (List AV → AS → Option (AV × AS))} (h : PLe p p') (f : Nat) : PLe (p.set f Am.hole) p' := by
 intro g
 by_cases e : g = f
 ·subst e
  rw [gsS]
  exact fun as S r hr => by cases hr
 ·rw [gsN _ _ e]
  exact h g
theorem PLe.leaf : PLe .leaf .leaf := fun f => by rw [zaX]
theorem PLe.hole {p p' : T (List AV → AS → Option (AV × AS))} (h : PLe p p') (f : Nat) (q' : List AV → AS → Option (AV × AS)) : PLe (p.set f Am.hole) (p'.set f q') := h.set f _ _ fun as S r hr => by cases hr
end Go.Am
