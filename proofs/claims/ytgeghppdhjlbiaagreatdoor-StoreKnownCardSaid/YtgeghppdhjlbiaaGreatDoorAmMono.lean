/-
  The abstract machine: more fuel gives the same answer.
-/
import Derived.Test.YtgeghppdhjlbiaaGreatDoorAmBool
namespace Go.Am
open Go

/-- r' answers as r, where r answers. -/
def Res.Le {α : Type} (r r' : Res α) : Prop := ∀ x xs, r = .ok x xs → r' = .ok x xs
theorem Res.Le.refl {α : Type} (r : Res α) : Res.Le r r := fun _ _ h => h
theorem Res.Le.trans {α : Type} {a b c : Res α} (h : Res.Le a b) (k : Res.Le b c) : Res.Le a c := fun x xs e => k x xs (h x xs e)
theorem Res.Le.err {α : Type} (n : Nat) (r : Res α) : Res.Le (.err n) r := fun _ _ h => by cases h
theorem Res.Le.app {α : Type} {a a' b b' : Res α} (h : Res.Le a a') (k : Res.Le b b') : Res.Le (Res.app a b) (Res.app a' b') := by
  intro x xs e
  cases a with
  | err n => cases e
  | ok y ys =>
    cases b with
    | err n => cases e
    | ok z zs =>
      have h1 := h y ys rfl
      have h2 := k z zs rfl
      subst h1 h2
      exact e
theorem Res.Le.bind {α β : Type} {r r' : Res α} {f f' : α → Res β} (h : Res.Le r r') (k : ∀ x, Res.Le (f x) (f' x)) : Res.Le (Res.bind r f) (Res.bind r' f') := by
  cases r with
  | err n => exact .err _ _
  | ok x xs =>
    have h1 := h x xs rfl
    subst h1
    cases xs with
    | nil => exact k x
    | cons y ys =>
      have e : ∀ g : α → Res β, Res.bind (.ok x (y :: ys)) g = Res.app (g x) (List.rec (motive := fun _ => α → Res β) (fun y => g y) (fun z _ ih y => Res.app (g y) (ih z)) ys y) := fun g => rfl
      rw [e, e]
      refine .app (k x) ?_
      clear e h
      induction ys generalizing y with
      | nil => exact k y
      | cons z zs ih => exact .app (k y) (ih z)
theorem Res.Le.sole {α : Type} {r r' : Res α} (h : Res.Le r r') : Res.Le (Res.sole r) (Res.sole r') := by
  cases r with
  | err n => exact .err _ _
  | ok x xs => rw [h x xs rfl]; exact .refl _

def KLe (K K' : CallK) : Prop := ∀ f as S, Res.Le (K f as S) (K' f as S)
theorem one_le {cx : Cx} {K K' : CallK} (h : KLe K K') (ops : List Oper) (o : Oper) (F : Fr) (S : AS) : Res.Le (one cx K ops o F S) (one cx K' ops o F S) := by
  unfold one
  split
  · split
    · exact .refl _
    · exact .bind (h _ _ _) fun _ => .refl _
    · exact .bind (h _ _ _) fun _ => .refl _
    · exact .refl _
    · exact .refl _
    · exact .refl _
  · exact .refl _
  · exact .refl _
theorem cond_le {α : Type} {b : Bool} {p k k' : Res α} (h : Res.Le k k') : Res.Le (cond b p k) (cond b p k') := by
  cases b <;> first | exact h | exact .refl _
theorem notPan_le {α : Type} {v : AV} {p : AV → Res α} {k k' : Res α} (h : Res.Le k k') : Res.Le (notPan v p k) (notPan v p k') := by
  cases v <;> first | exact h | exact .refl _
theorem runOps_le {cx : Cx} {K K' : CallK} (h : KLe K K') (ops : List Oper) : ∀ (l : List Oper) (F : Fr) (S : AS), Res.Le (runOps cx K ops l F S) (runOps cx K' ops l F S)
  | [], F, S => .refl _
  | o :: l, F, S => by
    show Res.Le (match isDefer o with
      | none => Res.bind (one cx K ops o F S) fun r => cond r.1 (.ok (some r.2.1, F, r.2.2) []) (runOps cx K ops l (putD F o.dst r.2.1) r.2.2)
      | some c => match wanted ops F o with
        | some true => match deferV F c with
          | some d => runOps cx K ops l (putD ⟨F.t, F.n, d :: F.ds⟩ o.dst .undef) S
          | none => .err 1009
        | some false => runOps cx K ops l (putD F o.dst .undef) S
        | none => .err 1010) (match isDefer o with
      | none => Res.bind (one cx K' ops o F S) fun r => cond r.1 (.ok (some r.2.1, F, r.2.2) []) (runOps cx K' ops l (putD F o.dst r.2.1) r.2.2)
      | some c => match wanted ops F o with
        | some true => match deferV F c with
          | some d => runOps cx K' ops l (putD ⟨F.t, F.n, d :: F.ds⟩ o.dst .undef) S
          | none => .err 1009
        | some false => runOps cx K' ops l (putD F o.dst .undef) S
        | none => .err 1010)
    split
    · exact .bind (one_le h ops o F S) fun r => cond_le (runOps_le h ops l _ _)
    · split
      · split
        · exact runOps_le h ops l _ _
        · exact .refl _
      · exact runOps_le h ops l _ _
      · exact .refl _
theorem runRows_le {cx : Cx} {K K' : CallK} (h : KLe K K') (ops : List Oper) : ∀ (l : List Row) (F : Fr) (S : AS) (ps : List Pend) (sn : List AS) (id : Nat), Res.Le (runRows cx K ops l F S ps sn id) (runRows cx K' ops l F S ps sn id)
  | [], F, S, ps, sn, id => .refl _
  | r :: l, F, S, ps, sn, id => by
    have e : ∀ K, runRows cx K ops (r :: l) F S ps sn id = (match r.cls with
      | .fresh => match wanted ops F r.o with
        | some true => match freshV cx F id r.o.op with
          | some (v, x) => runRows cx K ops l (putD F r.o.dst v) S (⟨r.i, id, x⟩ :: ps) sn (Nat.succ id)
          | none => .err 1001
        | some false => runRows cx K ops l (putD F r.o.dst .undef) S ps sn id
        | none => .err 1002
      | .eff =>
        Res.bind (Res.sole (one cx K ops r.o F (commit (fun p => bit r.bef p.i) ps S))) fun q => cond q.1 (cond (allL (fun q => bit q.bef r.i) l) (.ok (some (r.i, q.2.1, q.2.2), F, S, S :: sn) []) (.err 1007)) (runRows cx K ops l (putD F r.o.dst q.2.1) q.2.2 (filL (fun p => !bit r.bef p.i) ps) (S :: sn) id)
      | _ => match oneV cx ops F S r.o with
        | some v => runRows cx K ops l (putD F r.o.dst v) S ps sn id
        | none => .err 1006) := fun K => rfl
    rw [e, e]
    cases r.cls with
    | fresh =>
      simp only []
      split
      · split
        · exact runRows_le h ops l _ _ _ _ _
        · exact .refl _
      · exact runRows_le h ops l _ _ _ _ _
      · exact .refl _
    | eff => exact .bind (.sole (one_le h ops _ _ _)) fun q => cond_le (runRows_le h ops l _ _ _ _ _)
    | pure =>
      simp only []
      split
      · exact runRows_le h ops l _ _ _ _ _
      · exact .refl _
    | read =>
      simp only []
      split
      · exact runRows_le h ops l _ _ _ _ _
      · exact .refl _
theorem runDrawn_le {cx : Cx} {K K' : CallK} (h : KLe K K') (ops : List Oper) (F : Fr) (S : AS) : Res.Le (runDrawn cx K ops F S) (runDrawn cx K' ops F S) := by
  unfold runDrawn
  simp only []
  cases planOk ops (settle (rowsL cx ops)) with
  | false => exact .refl _
  | true =>
    simp only [cond_true]
    exact .bind (runRows_le h ops _ _ _ _ _ _) fun r => .refl _
theorem Res.Le.code {ih ih' : Code → Fr → AS → Res Out} (h : ∀ c F S, Res.Le (ih c F S) (ih' c F S)) {m : Md} {c : Code} {F : Fr} {S : AS} : Res.Le (Res.bind (ih c F S) fun o => (.ok (o.at m) [] : Res SOut)) (Res.bind (ih' c F S) fun o => .ok (o.at m) []) := .bind (h c F S) fun _ => .refl _
theorem execS_le {cx : Cx} {ih ih' : Code → Fr → AS → Res Out} (h : ∀ c F S, Res.Le (ih c F S) (ih' c F S)) : ∀ (c : Code) (F : Fr) (S : AS) (m : Md), Res.Le (execS cx ih c F S m) (execS cx ih' c F S m) := by
  intro c
  induction c with
  | region id ops draw =>
    intro F S m
    show Res.Le (cond (ops.toList.any isRecover) (cond draw (.err 2200) (runOpsS cx noK ops.toList ops.toList F S m)) (Res.bind (ih (.region id ops draw) F S) fun o => .ok (o.at m) []))
      (cond (ops.toList.any isRecover) (cond draw (.err 2200) (runOpsS cx noK ops.toList ops.toList F S m)) (Res.bind (ih' (.region id ops draw) F S) fun o => .ok (o.at m) []))
    cases ops.toList.any isRecover with
    | true => exact .refl _
    | false => exact .code h
  | seq x y ihx ihy =>
    intro F S m
    show Res.Le (Res.bind (execS cx ih x F S m) fun o => match o.ex with
      | .normal => execS cx ih y o.F o.S o.m
      | _ => .ok o []) (Res.bind (execS cx ih' x F S m) fun o => match o.ex with
      | .normal => execS cx ih' y o.F o.S o.m
      | _ => .ok o [])
    refine .bind (ihx F S m) fun o => ?_
    cases o.ex <;> first | exact ihy _ _ _ | exact .refl _
  | cond x y z ihy ihz =>
    intro F S m
    show Res.Le (match eval F x with
      | .bool true => execS cx ih y F S m
      | .bool false => execS cx ih z F S m
      | _ => .err 2201) (match eval F x with
      | .bool true => execS cx ih' y F S m
      | .bool false => execS cx ih' z F S m
      | _ => .err 2201)
    split
    · exact ihy _ _ _
    · exact ihz _ _ _
    · exact .refl _
  | block id b ihb => intro F S m; exact .bind (ihb F S m) fun _ => .refl _
  | loop b _ =>
    intro F S m
    show Res.Le (cond (hasRec b) (.err 2202) (Res.bind (ih (.loop b) F S) fun o => .ok (o.at m) [])) (cond (hasRec b) (.err 2202) (Res.bind (ih' (.loop b) F S) fun o => .ok (o.at m) []))
    cases hasRec b with
    | true => exact .refl _
    | false => exact .code h
  | _ => intros; exact .refl _
theorem leaveL_le {cx : Cx} {ih ih' : Code → Fr → AS → Res Out} (h : ∀ c F S, Res.Le (ih c F S) (ih' c F S)) (fn : Func) (F : Fr) : ∀ (ds : List ADef) (m : Md) (S : AS), Res.Le (leaveL cx ih fn F ds m S) (leaveL cx ih' fn F ds m S)
  | [], m, S => .refl _
  | d :: ds, m, S => by
    have e : ∀ ih, leaveL cx ih fn F (d :: ds) m S = (match d with
      | .mark id => match S.h.get id with
        | some (.oth (.dfr true)) => leaveL cx ih fn F ds m (setO S id (.dfr false))
        | _ => .err 2011
      | .call g as captured => match cx.fns.get g with
        | some gn => match gn.body with
          | some c => Res.bind (execS cx ih c (initF (appL as captured) gn.ntmps) S m) fun o => match o.F.ds with
            | [] => match settleM o.ex o.m with
              | some m' => match o.ex with
                | .pan _ => leaveL cx ih fn F ds m' o.S
                | _ => match resultsV cx gn o.F o.S with
                  | some _ => leaveL cx ih fn F ds m' o.S
                  | none => .err 2012
              | none => .err 2013
            | _ => .err 2014
          | none => .err 2015
        | none => .err 2016) := fun ih => rfl
    rw [e, e]
    split
    · split
      · exact leaveL_le h fn F ds _ _
      · exact .refl _
    · split
      · split
        · refine .bind (execS_le h _ _ _ _) fun o => ?_
          split
          · split
            · split
              · exact leaveL_le h fn F ds _ _
              · split
                · exact leaveL_le h fn F ds _ _
                · exact .refl _
            · exact .refl _
          · exact .refl _
        · exact .refl _
      · exact .refl _
theorem fnF_le {cx : Cx} {ih ih' : Code → Fr → AS → Res Out} (h : ∀ c F S, Res.Le (ih c F S) (ih' c F S)) (f : FuncId) (as : List AV) (S : AS) : Res.Le (fnF cx ih f as S) (fnF cx ih' f as S) := by
  unfold fnF
  split
  · exact .refl _
  · split
    · split
      · refine .bind (h _ _ _) fun o => ?_
        split
        · exact .refl _
        · exact .refl _
        · exact leaveL_le h _ _ _ _ _
        · exact leaveL_le h _ _ _ _ _
      · exact .refl _
    · exact .refl _
theorem pureR_le {S : AS} {ids : List Nat} {r r' : Res (AV × AS)} (h : Res.Le r r') : Res.Le (pureR S ids r) (pureR S ids r') := by
  cases r with
  | err n => exact .err _ _
  | ok x xs => rw [h x xs rfl]; exact .refl _
theorem roundF_le {ih ih' : Code → Fr → AS → Res Out} (h : ∀ c F S, Res.Le (ih c F S) (ih' c F S)) (id : Nat) (as : List AV) (S : AS) : Res.Le (roundF ih id as S) (roundF ih' id as S) := by
  unfold roundF
  split
  · split
    · refine .bind (h _ _ _) fun o => ?_
      split
      · split
        · exact .bind (h _ _ _) fun _ => .refl _
        · exact .refl _
      · exact .refl _
    · exact .refl _
  · exact .refl _
theorem callF_le {cx : Cx} {ih ih' : Code → Fr → AS → Res Out} (h : ∀ c F S, Res.Le (ih c F S) (ih' c F S)) : KLe (callF cx ih) (callF cx ih') := by
  intro t as S
  cases t with
  | round id => exact roundF_le h id as S
  | fn f =>
    show Res.Le (pureF cx ih f as S) (pureF cx ih' f as S)
    unfold pureF
    cases cx.pures.get f with
    | none => exact fnF_le h f as S
    | some u => exact pureR_le (fnF_le h f as _)
theorem scopeF_le {ih ih' : Code → Fr → AS → Res Out} (h : ∀ c F S, Res.Le (ih c F S) (ih' c F S)) (b : Code) : ∀ (n : Nat) (c : Code) (F : Fr) (S : AS), Res.Le (scopeF ih b n c F S) (scopeF ih' b (n + 1) c F S) := by
  intro n
  induction n with
  | zero => intro c F S; exact .err _ _
  | succ n rec =>
    intro c F S
    show Res.Le (Res.bind (ih c F S) fun o => match o.ex with
      | .goto l => match findLabel b l with
        | some rest => scopeF ih b n rest o.F o.S
        | none => .ok o []
      | _ => .ok o []) (Res.bind (ih' c F S) fun o => match o.ex with
      | .goto l => match findLabel b l with
        | some rest => scopeF ih' b (n + 1) rest o.F o.S
        | none => .ok o []
      | _ => .ok o [])
    refine .bind (h _ _ _) fun o => ?_
    split
    · split
      · exact rec _ _ _
      · exact .refl _
    · exact .refl _
theorem rangeF_le {cx : Cx} {ih ih' : Code → Fr → AS → Res Out} (h : ∀ c F S, Res.Le (ih c F S) (ih' c F S)) (x : Operand) (ps : Array Tmp) (a b : Code) (F : Fr) (S : AS) : Res.Le (rangeF cx ih x ps a b F S) (rangeF cx ih' x ps a b F S) := by
  unfold rangeF
  cases (plainC a && plainC b) with
  | false => exact .refl _
  | true =>
    simp only [cond_true]
    split
    · refine .bind (callF_le h _ _ _) fun r => ?_
      unfold rangeEnd
      refine notPan_le ?_
      split
      · exact .refl _
      · split
        · exact .refl _
        · exact h _ _ _
      · exact .refl _
    · exact .refl _

theorem exec_le {cx : Cx} : ∀ (n : Nat) (c : Code) (F : Fr) (S : AS), Res.Le (exec cx n c F S) (exec cx (n + 1) c F S) := by
  intro n
  induction n with
  | zero => intro c F S; exact .err _ _
  | succ n ih =>
    intro c F S
    have hK := callF_le (cx := cx) ih
    cases c with
    | skip => exact .refl _
    | ret => exact .refl _
    | exit id => exact .refl _
    | region id ops draw =>
      cases draw with
      | false =>
        show Res.Le (Res.bind (runOps cx (callF cx (exec cx n)) ops.toList ops.toList F S) _) (Res.bind (runOps cx (callF cx (exec cx (n + 1))) ops.toList ops.toList F S) _)
        exact .bind (runOps_le hK _ _ _ _) fun r => .refl _
      | true =>
        show Res.Le (Res.bind (runDrawn cx (callF cx (exec cx n)) ops.toList F S) _) (Res.bind (runDrawn cx (callF cx (exec cx (n + 1))) ops.toList F S) _)
        exact .bind (runDrawn_le hK _ _ _) fun r => .refl _
    | seq x y =>
      show Res.Le (Res.bind (exec cx n x F S) fun o => match o.ex with
        | .normal => exec cx n y o.F o.S
        | _ => .ok o []) (Res.bind (exec cx (n + 1) x F S) fun o => match o.ex with
        | .normal => exec cx (n + 1) y o.F o.S
        | _ => .ok o [])
      refine .bind (ih _ _ _) fun o => ?_
      cases o.ex <;> first | exact ih _ _ _ | exact .refl _
    | cond x y z =>
      show Res.Le (match eval F x with
        | .bool true => exec cx n y F S
        | .bool false => exec cx n z F S
        | _ => .err 3001) (match eval F x with
        | .bool true => exec cx (n + 1) y F S
        | .bool false => exec cx (n + 1) z F S
        | _ => .err 3001)
      split
      · exact ih _ _ _
      · exact ih _ _ _
      · exact .refl _
    | block id b =>
      exact .bind (ih b F S) fun o => .refl _
    | loop b =>
      show Res.Le (Res.bind (exec cx n b F S) fun o => match o.ex with
        | .normal => exec cx n (.loop b) o.F o.S
        | _ => .ok o []) (Res.bind (exec cx (n + 1) b F S) fun o => match o.ex with
        | .normal => exec cx (n + 1) (.loop b) o.F o.S
        | _ => .ok o [])
      refine .bind (ih _ _ _) fun o => ?_
      cases o.ex <;> first | exact ih _ _ _ | exact .refl _
    | rangeFunc f p x y => exact rangeF_le ih f p x y F S
    | scope b => exact scopeF_le ih b n b F S
    | label l => exact .refl _
    | goto l => exact .refl _
    | refuse s => exact .refl _
theorem exec_mono {cx : Cx} {n m : Nat} (h : n ≤ m) (c : Code) (F : Fr) (S : AS) : Res.Le (exec cx n c F S) (exec cx m c F S) := by
  induction h with
  | refl => exact .refl _
  | step _ ih => exact ih.trans (exec_le _ c F S)
theorem call_mono {cx : Cx} {n m : Nat} (h : n ≤ m) : KLe (callF cx (exec cx n)) (callF cx (exec cx m)) := callF_le fun c F S => exec_mono h c F S

theorem Res.all_bind_of {α β : Type} {r : Res α} {f : α → Res β} {p : β → Prop} (h : r.All fun x => (f x).All p) : (Res.bind r f).All p := by
  have app : ∀ {a b : Res β}, a.All p → b.All p → (Res.app a b).All p := by
    intro a b ha hb
    cases a with
    | err n => exact ha.elim
    | ok x xs =>
      cases b with
      | err n => exact hb.elim
      | ok y ys =>
        refine ⟨ha.1, fun z hz => ?_⟩
        rw [appL_eq] at hz
        rcases List.mem_append.1 hz with h1 | h1
        · exact ha.2 z h1
        · cases h1 with
          | head => exact hb.1
          | tail _ h2 => exact hb.2 z h2
  cases r with
  | err n => exact h.elim
  | ok x xs =>
    obtain ⟨h1, h2⟩ := h
    cases xs with
    | nil => exact h1
    | cons y ys =>
      show (Res.app (f x) (List.rec (motive := fun _ => α → Res β) (fun y => f y) (fun z _ ih y => Res.app (f y) (ih z)) ys y)).All p
      refine app h1 ?_
      clear h1
      induction ys generalizing y with
      | nil => exact h2 y (by simp)
      | cons z zs ih => exact app (h2 y (by simp)) (ih z fun u hu => h2 u (List.mem_cons_of_mem _ hu))
theorem Res.Le.all {α : Type} {r r' : Res α} (h : Res.Le r r') {p : α → Prop} (k : r.All p) : r'.All p := by
  cases r with
  | err n => exact k.elim
  | ok x xs => rw [h x xs rfl]; exact k
end Go.Am
