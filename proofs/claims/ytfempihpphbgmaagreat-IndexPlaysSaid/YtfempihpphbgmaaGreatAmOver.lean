/-
  The abstract machine: a function whose contract comes to be known later. What was shown without it stays so with it.
-/
import Derived.Test.YtfempihpphbgmaaGreatAmKept
namespace Go.Am
open Go
set_option linter.unusedVariables false
def Cx.wp (cx : Cx) (p : T (List AV → AS → Option (AV × AS))) : Cx := ⟨cx.kO, cx.fns, cx.eqs, cx.exts, p, cx.dE, cx.eh⟩
def uP (p p' : T (List AV → AS → Option (AV × AS))) : Prop := ∀ f, match p.get f with
 | none => p'.get f = none
 | some q => ∀ as S r, q as S = some r → ∃ q', p'.get f = some q' ∧ q' as S = some r
def hole (_ : List AV) (_ : AS) : Option (AV × AS) := none
section
variable {cx : Cx} {p : T (List AV → AS → Option (AV × AS))}
theorem one_ov {K : dH} {ops : List Oper} {o : Oper} {F : Fr} {S : AS} : one (cx.wp p) K ops o F S = one cx K ops o F S := rfl
theorem runOps_ov {K : dH} {ops l : List Oper} {F : Fr} {S : AS} : bM (cx.wp p) K ops l F S = bM cx K ops l F S := rfl
theorem rowsL_ov {ops : List Oper} : cV (cx.wp p) ops = cV cx ops := rfl
theorem oneV_ov {ops : List Oper} {F : Fr} {S : AS} {o : Oper} : eG (cx.wp p) ops F S o = eG cx ops F S o := rfl
theorem freshV_ov {F : Fr} {id : Nat} {o : Op} : aI (cx.wp p) F id o = aI cx F id o := rfl
theorem u7 {K : dH} {ops : List Oper} : ∀ (l : List Row) (F : Fr) (S : AS) (ps : List dC) (sn : List AS) (id : Nat), bp (cx.wp p) K ops l F S ps sn id = bp cx K ops l F S ps sn id
 | [], F, S, ps, sn, id => rfl
 | r :: l, F, S, ps, sn, id => by
  have e : ∀ cx, bp cx K ops (r :: l) F S ps sn id = (match r.cls with
   | .fresh => match wanted ops F r.o with
    | some true => match aI cx F id r.o.op with
     | some (v, x) => bp cx K ops l (bj F r.o.dst v) S (⟨r.i, id, x⟩ :: ps) sn (Nat.succ id)
     | none => .err 1001
    | some false => bp cx K ops l (bj F r.o.dst .undef) S ps sn id
    | none => .err 1002
   | .xH =>
    aq.bind (aq.uY (one cx K ops r.o F (bf (fun p => bit r.eE p.i) ps S))) fun q => cond q.1 (.err 1007) (bp cx K ops l (bj F r.o.dst q.2.1) q.2.2 (gv (fun p => !bit r.eE p.i) ps) (S :: sn) id)
   | _ => match eG cx ops F S r.o with
    | some v => bp cx K ops l (bj F r.o.dst v) S ps sn id
    | none => .err 1006) := fun cx => rfl
  rw [e, e];simp only [u7 l, oneV_ov, freshV_ov, one_ov]
theorem Bs {ops : List Oper} {rows : List Row} {F : Fr} {sn : List AS} {r : Row} : fU (cx.wp p) ops rows F sn r = fU cx ops rows F sn r := rfl
theorem BR {K : dH} {ops : List Oper} {F : Fr} {S : AS} : cN (cx.wp p) K ops F S = cN cx K ops F S := by
 unfold cN;simp only [rowsL_ov, u7, Bs]
theorem CT (hp : uP cx.aV p) {ih jj : Code → Fr → AS → aq Out} (h : ∀ c F S, aq.Le (ih c F S) (jj c F S)) (f : FuncId) (as : List AV) (S : AS) : aq.Le (CU cx ih f as S) (CU (cx.wp p) jj f as S) := by
 have e : CU (cx.wp p) jj f as S = (match p.get f with
  | some q => match q as S with
   | some r => .ok r []
   | none => .err 2004
  | none => match cx.fns.get f with
   | some fn => match fn.body with
    | some c => aq.bind (jj c (kx as fn.ntmps) S) fun o => match o.ex with
     | .exit _ => .err 2000
     | .goto _ => .err 2005
     | .ei v => eo cx jj fn o.F o.F.ds (.ei v) o.S
     | _ => eo cx jj fn o.F o.F.ds .ret o.S
    | none => .err 2002
   | none => .err 2003) := rfl
 have hf := hp f;have hle := fnF_le (cx := cx) h f as S;rw [e];unfold CU at hle ⊢
 cases hq : cx.aV.get f with
 | none =>
  rw [hq] at hf;simp only [hq] at hle;rw [hf];exact hle
 | some q =>
  rw [hq] at hf;simp only []
  cases hr : q as S with
  | none => exact .err _ _
  | some r =>
   obtain ⟨q', h1, h2⟩ := hf as S r hr;rw [h1];simp only [h2];exact .refl _
theorem qf (hp : uP cx.aV p) {ih jj : Code → Fr → AS → aq Out} (h : ∀ c F S, aq.Le (ih c F S) (jj c F S)) : KLe (bu cx ih) (bu (cx.wp p) jj) := by
 intro t as S
 cases t with
 | round id => exact yu h id as S
 | fn f =>
  have e : bu (cx.wp p) jj (.fn f) as S = (match cx.eh.get f with
   | none => CU (cx.wp p) jj f as S
   | some _ => B9 S (List.rec (motive := fun _ => List Nat) [] (fun x _ r => dB (zU S 4 x) r) as) (CU (cx.wp p) jj f as (nV S (List.rec (motive := fun _ => List Nat) [] (fun x _ r => dB (zU S 4 x) r) as)))) := rfl
  rw [e];show aq.Le (nD cx ih f as S) _;unfold nD
  cases cx.eh.get f with
  | none => exact CT hp h f as S
  | some u => exact B8 (CT hp h f as _)
theorem B6 (hp : uP cx.aV p) {ih jj : Code → Fr → AS → aq Out} (h : ∀ c F S, aq.Le (ih c F S) (jj c F S)) (x : Operand) (ps : Array Tmp) (a b : Code) (F : Fr) (S : AS) : aq.Le (jW cx ih x ps a b F S) (jW (cx.wp p) jj x ps a b F S) := by
 unfold jW
 cases (bZ a && bZ b) with
 | false => exact .refl _
 | true =>
  simp only [cond_true]
  split
  ·refine .bind (qf hp h _ _ _) fun r => ?_
   unfold lr;refine yH ?_
   split
   ·exact .refl _
   ·split
    ·exact .refl _
    ·exact h _ _ _
   ·exact .refl _
  ·exact .refl _
theorem BO {ih jj : Code → Fr → AS → aq Out} (h : ∀ c F S, aq.Le (ih c F S) (jj c F S)) (b : Code) : ∀ (n : Nat) (c : Code) (F : Fr) (S : AS), aq.Le (jn ih b n c F S) (jn jj b n c F S) := by
 intro n
 induction n with
 | zero => intro c F S; exact .err _ _
 | succ n rec =>
  intro c F S;show aq.Le (aq.bind (ih c F S) fun o => match o.ex with
   | .goto l => match findLabel b l with
    | some rest => jn ih b n rest o.F o.S
    | none => .ok o []
   | _ => .ok o []) (aq.bind (jj c F S) fun o => match o.ex with
   | .goto l => match findLabel b l with
    | some rest => jn jj b n rest o.F o.S
    | none => .ok o []
   | _ => .ok o [])
  refine .bind (h _ _ _) fun o => ?_
  split
  ·split
   ·exact rec _ _ _
   ·exact .refl _
  ·exact .refl _
theorem exec_over (hp : uP cx.aV p) : ∀ (n : Nat) (c : Code) (F : Fr) (S : AS), aq.Le (exec cx n c F S) (exec (cx.wp p) n c F S) := by
 intro n
 induction n with
 | zero => intro c F S; exact .err _ _
 | succ n ih =>
  intro c F S;have hK := qf hp ih
  cases c with
  | skip => exact .refl _
  | ret => exact .refl _
  | exit id => exact .refl _
  | region id ops draw =>
   cases draw with
   | false =>
    show aq.Le (aq.bind (bM cx (bu cx (exec cx n)) ops.toList ops.toList F S) _) (aq.bind (bM (cx.wp p) (bu (cx.wp p) (exec (cx.wp p) n)) ops.toList ops.toList F S) _);rw [runOps_ov];exact .bind (gK hK _ _ _ _) fun r => .refl _
   | true =>
    show aq.Le (aq.bind (cN cx (bu cx (exec cx n)) ops.toList F S) _) (aq.bind (cN (cx.wp p) (bu (cx.wp p) (exec (cx.wp p) n)) ops.toList F S) _);rw [BR];exact .bind (tq hK _ _ _) fun r => .refl _
  | seq x y =>
   show aq.Le (aq.bind (exec cx n x F S) fun o => match o.ex with
    | .normal => exec cx n y o.F o.S
    | _ => .ok o []) (aq.bind (exec (cx.wp p) n x F S) fun o => match o.ex with
    | .normal => exec (cx.wp p) n y o.F o.S
    | _ => .ok o [])
   refine .bind (ih _ _ _) fun o => ?_
   cases o.ex <;> first | exact ih _ _ _ | exact .refl _
  | cond x y z =>
   show aq.Le (match eval F x with
    | .bool true => exec cx n y F S
    | .bool false => exec cx n z F S
    | _ => .err 3001) (match eval F x with
    | .bool true => exec (cx.wp p) n y F S
    | .bool false => exec (cx.wp p) n z F S
    | _ => .err 3001)
   split
   ·exact ih _ _ _
   ·exact ih _ _ _
   ·exact .refl _
  | block id b =>
   exact .bind (ih b F S) fun o => .refl _
  | loop b =>
   show aq.Le (aq.bind (exec cx n b F S) fun o => match o.ex with
    | .normal => exec cx n (.loop b) o.F o.S
    | _ => .ok o []) (aq.bind (exec (cx.wp p) n b F S) fun o => match o.ex with
    | .normal => exec (cx.wp p) n (.loop b) o.F o.S
    | _ => .ok o [])
   refine .bind (ih _ _ _) fun o => ?_
   cases o.ex <;> first | exact ih _ _ _ | exact .refl _
  | rangeFunc f ps x y => exact B6 hp ih f ps x y F S
  | scope b => exact BO ih b n b F S
  | label l => exact .refl _
  | goto l => exact .refl _
  | refuse s => exact .refl _
theorem zk (hp : uP cx.aV p) (n : Nat) (f : FuncId) (as : List AV) (S : AS) : aq.Le (call cx n f as S) (call (cx.wp p) n f as S) := qf hp (exec_over hp n) (.fn f) as S
theorem ai.over (hp : uP cx.aV p) {f : FuncId} {as : List AV} {S : AS} {Q : AV → AS → Prop} (h : ai cx f as S Q) : ai (cx.wp p) f as S Q := by
 obtain ⟨n, h⟩ := h;exact ⟨n, (zk hp n f as S).one h⟩
theorem cQ.over (hp : uP cx.aV p) {f : FuncId} {as : List AV} {S : AS} {Q : AV → AS → Prop} (h : cQ cx f as S Q) : cQ (cx.wp p) f as S Q := by
 obtain ⟨n, h⟩ := h;exact ⟨n, (zk hp n f as S).all h⟩
end
theorem mkCx_wp {P : Program} {A A' : Ask} (h1 : A'.eqs = A.eqs) (h2 : A'.exts = A.exts) (h3 : A'.dE = A.dE) (h4 : A'.eh = A.eh) : (iF P A).wp (iF P A').aV = iF P A' := by
 unfold iF Cx.wp;simp only [h1, h2, h3, h4]
theorem ai.to {P : Program} {A A' : Ask} (h1 : A'.eqs = A.eqs) (h2 : A'.exts = A.exts) (h3 : A'.dE = A.dE) (h4 : A'.eh = A.eh) (hp : uP (iF P A).aV (iF P A').aV) {f : FuncId} {vs : List AV} {S : AS} {Q : AV → AS → Prop} (h : ai (iF P A) f vs S Q) : ai (iF P A') f vs S Q := by
 rw [← mkCx_wp h1 h2 h3 h4];exact h.over hp
theorem cQ.to {P : Program} {A A' : Ask} (h1 : A'.eqs = A.eqs) (h2 : A'.exts = A.exts) (h3 : A'.dE = A.dE) (h4 : A'.eh = A.eh) (hp : uP (iF P A).aV (iF P A').aV) {f : FuncId} {vs : List AV} {S : AS} {Q : AV → AS → Prop} (h : cQ (iF P A) f vs S Q) : cQ (iF P A') f vs S Q := by
 rw [← mkCx_wp h1 h2 h3 h4];exact h.over hp
theorem uP.set {p p' : T (List AV → AS → Option (AV × AS))} (h : uP p p') (f : Nat) (q q' : List AV → AS → Option (AV × AS)) (hq : ∀ as S r, q as S = some r → q' as S = some r) : uP (p.set f q) (p'.set f q') := by
 intro g
 by_cases e : g = f
 ·subst e
  rw [aa];exact fun as S r hr => ⟨q', aa _ _ _, hq as S r hr⟩
 ·rw [ae _ _ e, ae _ _ e]
  exact h g
theorem uP.refl (p : T (List AV → AS → Option (AV × AS))) : uP p p := fun f => by
 cases h : p.get f with
 | none => rfl
 | some q => exact fun as S r hr => ⟨q, rfl, hr⟩
theorem uP.lose {p p' : T (List AV → AS → Option (AV × AS))} (h : uP p p') (f : Nat) : uP (p.set f Am.hole) p' := by
 intro g
 by_cases e : g = f
 ·subst e
  rw [aa];exact fun as S r hr => by cases hr
 ·rw [ae _ _ e]
  exact h g
theorem uP.hole {p p' : T (List AV → AS → Option (AV × AS))} (h : uP p p') (f : Nat) (q' : List AV → AS → Option (AV × AS)) : uP (p.set f Am.hole) (p'.set f q') := h.set f _ _ fun as S r hr => by cases hr
end Go.Am
