/-
  The abstract machine: more fuel gives the same answer.
  The abstract machine: a logic for its code. What holds behind a run, for values that are not known.
-/
import Derived.Test.YtpgmahedcpepkaaGreatDoorAmBool
import Derived.Test.YtpgmahedcpepkaaGreatDoorAmDraws
namespace Go.Am
open Go

/-- r' answers as r, where r answers. -/
def Res.Le {α : Type} (r r' : Res α) : Prop := ∀ x xs, r = .ok x xs → r' = .ok x xs
theorem Res.Le.refl {α : Type} (r : Res α) : Res.Le r r := fun _ _ h => h
theorem Res.Le.trans {α : Type} {a b c : Res α} (h : Res.Le a b) (k : Res.Le b c) : Res.Le a c := fun x xs e => k x xs (h x xs e)
theorem Res.Le.err {α : Type} (n : Nat) (r : Res α) : Res.Le (.err n) r := fun _ _ h => by cases h
theorem Res.Le.app {α : Type} {a a' b b' : Res α} (h : Res.Le a a') (k : Res.Le b b') : Res.Le (Res.app a b) (Res.app a' b') := by
  intro x xs e
  cases a with
  | err n => cases e
  | ok y ys =>
    cases b with
    | err n => cases e
    | ok z zs =>
      have h1 := h y ys rfl
      have h2 := k z zs rfl
      subst h1 h2
      exact e
theorem Res.Le.bind {α β : Type} {r r' : Res α} {f f' : α → Res β} (h : Res.Le r r') (k : ∀ x, Res.Le (f x) (f' x)) : Res.Le (Res.bind r f) (Res.bind r' f') := by
  cases r with
  | err n => exact .err _ _
  | ok x xs =>
    have h1 := h x xs rfl
    subst h1
    cases xs with
    | nil => exact k x
    | cons y ys =>
      have e : ∀ g : α → Res β, Res.bind (.ok x (y :: ys)) g = Res.app (g x) (List.rec (motive := fun _ => α → Res β) (fun y => g y) (fun z _ ih y => Res.app (g y) (ih z)) ys y) := fun g => rfl
      rw [e, e]
      refine .app (k x) ?_
      clear e h
      induction ys generalizing y with
      | nil => exact k y
      | cons z zs ih => exact .app (k y) (ih z)
theorem Res.Le.sole {α : Type} {r r' : Res α} (h : Res.Le r r') : Res.Le (Res.sole r) (Res.sole r') := by
  cases r with
  | err n => exact .err _ _
  | ok x xs => rw [h x xs rfl]; exact .refl _

def KLe (K K' : CallK) : Prop := ∀ f as S, Res.Le (K f as S) (K' f as S)
theorem one_le {cx : Cx} {K K' : CallK} (h : KLe K K') (ops : List Oper) (o : Oper) (F : Fr) (S : AS) : Res.Le (one cx K ops o F S) (one cx K' ops o F S) := by
  unfold one
  split
  · split
    · exact .refl _
    · exact .bind (h _ _ _) fun _ => .refl _
    · exact .bind (h _ _ _) fun _ => .refl _
    · exact .refl _
    · exact .refl _
    · exact .refl _
  · exact .refl _
  · exact .refl _
theorem cond_le {α : Type} {b : Bool} {p k k' : Res α} (h : Res.Le k k') : Res.Le (cond b p k) (cond b p k') := by
  cases b <;> first | exact h | exact .refl _
theorem notPan_le {α : Type} {v : AV} {p : AV → Res α} {k k' : Res α} (h : Res.Le k k') : Res.Le (notPan v p k) (notPan v p k') := by
  cases v <;> first | exact h | exact .refl _
theorem runOps_le {cx : Cx} {K K' : CallK} (h : KLe K K') (ops : List Oper) : ∀ (l : List Oper) (F : Fr) (S : AS), Res.Le (runOps cx K ops l F S) (runOps cx K' ops l F S)
  | [], F, S => .refl _
  | o :: l, F, S => by
    show Res.Le (match isDefer o with
      | none => Res.bind (one cx K ops o F S) fun r => cond r.1 (.ok (some r.2.1, F, r.2.2) []) (runOps cx K ops l (putD F o.dst r.2.1) r.2.2)
      | some c => match wanted ops F o with
        | some true => match deferV F c with
          | some d => runOps cx K ops l (putD ⟨F.t, F.n, d :: F.ds⟩ o.dst .undef) S
          | none => .err 1009
        | some false => runOps cx K ops l (putD F o.dst .undef) S
        | none => .err 1010) (match isDefer o with
      | none => Res.bind (one cx K' ops o F S) fun r => cond r.1 (.ok (some r.2.1, F, r.2.2) []) (runOps cx K' ops l (putD F o.dst r.2.1) r.2.2)
      | some c => match wanted ops F o with
        | some true => match deferV F c with
          | some d => runOps cx K' ops l (putD ⟨F.t, F.n, d :: F.ds⟩ o.dst .undef) S
          | none => .err 1009
        | some false => runOps cx K' ops l (putD F o.dst .undef) S
        | none => .err 1010)
    split
    · exact .bind (one_le h ops o F S) fun r => cond_le (runOps_le h ops l _ _)
    · split
      · split
        · exact runOps_le h ops l _ _
        · exact .refl _
      · exact runOps_le h ops l _ _
      · exact .refl _
theorem runRows_le {cx : Cx} {K K' : CallK} (h : KLe K K') (ops : List Oper) : ∀ (l : List Row) (F : Fr) (S : AS) (ps : List Pend) (sn : List AS) (id : Nat), Res.Le (runRows cx K ops l F S ps sn id) (runRows cx K' ops l F S ps sn id)
  | [], F, S, ps, sn, id => .refl _
  | r :: l, F, S, ps, sn, id => by
    have e : ∀ K, runRows cx K ops (r :: l) F S ps sn id = (match r.cls with
      | .fresh => match wanted ops F r.o with
        | some true => match freshV cx F id r.o.op with
          | some (v, x) => runRows cx K ops l (putD F r.o.dst v) S (⟨r.i, id, x⟩ :: ps) sn (Nat.succ id)
          | none => .err 1001
        | some false => runRows cx K ops l (putD F r.o.dst .undef) S ps sn id
        | none => .err 1002
      | .eff =>
        Res.bind (Res.sole (one cx K ops r.o F (commit (fun p => bit r.bef p.i) ps S))) fun q => cond q.1 (cond (allL (fun q => bit q.bef r.i) l) (.ok (some (r.i, q.2.1, q.2.2), F, S, S :: sn) []) (.err 1007)) (runRows cx K ops l (putD F r.o.dst q.2.1) q.2.2 (filL (fun p => !bit r.bef p.i) ps) (S :: sn) id)
      | _ => match oneV cx ops F S r.o with
        | some v => runRows cx K ops l (putD F r.o.dst v) S ps sn id
        | none => .err 1006) := fun K => rfl
    rw [e, e]
    cases r.cls with
    | fresh =>
      simp only []
      split
      · split
        · exact runRows_le h ops l _ _ _ _ _
        · exact .refl _
      · exact runRows_le h ops l _ _ _ _ _
      · exact .refl _
    | eff => exact .bind (.sole (one_le h ops _ _ _)) fun q => cond_le (runRows_le h ops l _ _ _ _ _)
    | pure =>
      simp only []
      split
      · exact runRows_le h ops l _ _ _ _ _
      · exact .refl _
    | read =>
      simp only []
      split
      · exact runRows_le h ops l _ _ _ _ _
      · exact .refl _
theorem runDrawn_le {cx : Cx} {K K' : CallK} (h : KLe K K') (ops : List Oper) (F : Fr) (S : AS) : Res.Le (runDrawn cx K ops F S) (runDrawn cx K' ops F S) := by
  unfold runDrawn
  simp only []
  cases planOk ops (settle (rowsL cx ops)) with
  | false => exact .refl _
  | true =>
    simp only [cond_true]
    exact .bind (runRows_le h ops _ _ _ _ _ _) fun r => .refl _
theorem Res.Le.code {ih ih' : Code → Fr → AS → Res Out} (h : ∀ c F S, Res.Le (ih c F S) (ih' c F S)) {m : Md} {c : Code} {F : Fr} {S : AS} : Res.Le (Res.bind (ih c F S) fun o => (.ok (o.at m) [] : Res SOut)) (Res.bind (ih' c F S) fun o => .ok (o.at m) []) := .bind (h c F S) fun _ => .refl _
theorem execS_le {cx : Cx} {ih ih' : Code → Fr → AS → Res Out} (h : ∀ c F S, Res.Le (ih c F S) (ih' c F S)) : ∀ (c : Code) (F : Fr) (S : AS) (m : Md), Res.Le (execS cx ih c F S m) (execS cx ih' c F S m) := by
  intro c
  induction c with
  | region id ops draw =>
    intro F S m
    show Res.Le (cond (ops.toList.any isRecover) (cond draw (.err 2200) (runOpsS cx noK ops.toList ops.toList F S m)) (Res.bind (ih (.region id ops draw) F S) fun o => .ok (o.at m) []))
      (cond (ops.toList.any isRecover) (cond draw (.err 2200) (runOpsS cx noK ops.toList ops.toList F S m)) (Res.bind (ih' (.region id ops draw) F S) fun o => .ok (o.at m) []))
    cases ops.toList.any isRecover with
    | true => exact .refl _
    | false => exact .code h
  | seq x y ihx ihy =>
    intro F S m
    show Res.Le (Res.bind (execS cx ih x F S m) fun o => match o.ex with
      | .normal => execS cx ih y o.F o.S o.m
      | _ => .ok o []) (Res.bind (execS cx ih' x F S m) fun o => match o.ex with
      | .normal => execS cx ih' y o.F o.S o.m
      | _ => .ok o [])
    refine .bind (ihx F S m) fun o => ?_
    cases o.ex <;> first | exact ihy _ _ _ | exact .refl _
  | cond x y z ihy ihz =>
    intro F S m
    show Res.Le (match eval F x with
      | .bool true => execS cx ih y F S m
      | .bool false => execS cx ih z F S m
      | _ => .err 2201) (match eval F x with
      | .bool true => execS cx ih' y F S m
      | .bool false => execS cx ih' z F S m
      | _ => .err 2201)
    split
    · exact ihy _ _ _
    · exact ihz _ _ _
    · exact .refl _
  | block id b ihb => intro F S m; exact .bind (ihb F S m) fun _ => .refl _
  | loop b _ =>
    intro F S m
    show Res.Le (cond (hasRec b) (.err 2202) (Res.bind (ih (.loop b) F S) fun o => .ok (o.at m) [])) (cond (hasRec b) (.err 2202) (Res.bind (ih' (.loop b) F S) fun o => .ok (o.at m) []))
    cases hasRec b with
    | true => exact .refl _
    | false => exact .code h
  | _ => intros; exact .refl _
theorem leaveL_le {cx : Cx} {ih ih' : Code → Fr → AS → Res Out} (h : ∀ c F S, Res.Le (ih c F S) (ih' c F S)) (fn : Func) (F : Fr) : ∀ (ds : List ADef) (m : Md) (S : AS), Res.Le (leaveL cx ih fn F ds m S) (leaveL cx ih' fn F ds m S)
  | [], m, S => .refl _
  | d :: ds, m, S => by
    have e : ∀ ih, leaveL cx ih fn F (d :: ds) m S = (match d with
      | .mark id => match S.h.get id with
        | some (.oth (.dfr true)) => leaveL cx ih fn F ds m (setO S id (.dfr false))
        | _ => .err 2011
      | .call g as captured => match cx.fns.get g with
        | some gn => match gn.body with
          | some c => Res.bind (execS cx ih c (initF (appL as captured) gn.ntmps) S m) fun o => match o.F.ds with
            | [] => match settleM o.ex o.m with
              | some m' => match o.ex with
                | .pan _ => leaveL cx ih fn F ds m' o.S
                | _ => match resultsV cx gn o.F o.S with
                  | some _ => leaveL cx ih fn F ds m' o.S
                  | none => .err 2012
              | none => .err 2013
            | _ => .err 2014
          | none => .err 2015
        | none => .err 2016) := fun ih => rfl
    rw [e, e]
    split
    · split
      · exact leaveL_le h fn F ds _ _
      · exact .refl _
    · split
      · split
        · refine .bind (execS_le h _ _ _ _) fun o => ?_
          split
          · split
            · split
              · exact leaveL_le h fn F ds _ _
              · split
                · exact leaveL_le h fn F ds _ _
                · exact .refl _
            · exact .refl _
          · exact .refl _
        · exact .refl _
      · exact .refl _
theorem fnF_le {cx : Cx} {ih ih' : Code → Fr → AS → Res Out} (h : ∀ c F S, Res.Le (ih c F S) (ih' c F S)) (f : FuncId) (as : List AV) (S : AS) : Res.Le (fnF cx ih f as S) (fnF cx ih' f as S) := by
  unfold fnF
  split
  · exact .refl _
  · split
    · split
      · refine .bind (h _ _ _) fun o => ?_
        split
        · exact .refl _
        · exact .refl _
        · exact leaveL_le h _ _ _ _ _
        · exact leaveL_le h _ _ _ _ _
      · exact .refl _
    · exact .refl _
theorem pureR_le {S : AS} {ids : List Nat} {r r' : Res (AV × AS)} (h : Res.Le r r') : Res.Le (pureR S ids r) (pureR S ids r') := by
  cases r with
  | err n => exact .err _ _
  | ok x xs => rw [h x xs rfl]; exact .refl _
theorem roundF_le {ih ih' : Code → Fr → AS → Res Out} (h : ∀ c F S, Res.Le (ih c F S) (ih' c F S)) (id : Nat) (as : List AV) (S : AS) : Res.Le (roundF ih id as S) (roundF ih' id as S) := by
  unfold roundF
  split
  · split
    · refine .bind (h _ _ _) fun o => ?_
      split
      · split
        · exact .bind (h _ _ _) fun _ => .refl _
        · exact .refl _
      · exact .refl _
    · exact .refl _
  · exact .refl _
theorem callF_le {cx : Cx} {ih ih' : Code → Fr → AS → Res Out} (h : ∀ c F S, Res.Le (ih c F S) (ih' c F S)) : KLe (callF cx ih) (callF cx ih') := by
  intro t as S
  cases t with
  | round id => exact roundF_le h id as S
  | fn f =>
    show Res.Le (pureF cx ih f as S) (pureF cx ih' f as S)
    unfold pureF
    cases cx.pures.get f with
    | none => exact fnF_le h f as S
    | some u => exact pureR_le (fnF_le h f as _)
theorem scopeF_le {ih ih' : Code → Fr → AS → Res Out} (h : ∀ c F S, Res.Le (ih c F S) (ih' c F S)) (b : Code) : ∀ (n : Nat) (c : Code) (F : Fr) (S : AS), Res.Le (scopeF ih b n c F S) (scopeF ih' b (n + 1) c F S) := by
  intro n
  induction n with
  | zero => intro c F S; exact .err _ _
  | succ n rec =>
    intro c F S
    show Res.Le (Res.bind (ih c F S) fun o => match o.ex with
      | .goto l => match findLabel b l with
        | some rest => scopeF ih b n rest o.F o.S
        | none => .ok o []
      | _ => .ok o []) (Res.bind (ih' c F S) fun o => match o.ex with
      | .goto l => match findLabel b l with
        | some rest => scopeF ih' b (n + 1) rest o.F o.S
        | none => .ok o []
      | _ => .ok o [])
    refine .bind (h _ _ _) fun o => ?_
    split
    · split
      · exact rec _ _ _
      · exact .refl _
    · exact .refl _
theorem rangeF_le {cx : Cx} {ih ih' : Code → Fr → AS → Res Out} (h : ∀ c F S, Res.Le (ih c F S) (ih' c F S)) (x : Operand) (ps : Array Tmp) (a b : Code) (F : Fr) (S : AS) : Res.Le (rangeF cx ih x ps a b F S) (rangeF cx ih' x ps a b F S) := by
  unfold rangeF
  cases (plainC a && plainC b) with
  | false => exact .refl _
  | true =>
    simp only [cond_true]
    split
    · refine .bind (callF_le h _ _ _) fun r => ?_
      unfold rangeEnd
      refine notPan_le ?_
      split
      · exact .refl _
      · split
        · exact .refl _
        · exact h _ _ _
      · exact .refl _
    · exact .refl _

theorem exec_le {cx : Cx} : ∀ (n : Nat) (c : Code) (F : Fr) (S : AS), Res.Le (exec cx n c F S) (exec cx (n + 1) c F S) := by
  intro n
  induction n with
  | zero => intro c F S; exact .err _ _
  | succ n ih =>
    intro c F S
    have hK := callF_le (cx := cx) ih
    cases c with
    | skip => exact .refl _
    | ret => exact .refl _
    | exit id => exact .refl _
    | region id ops draw =>
      cases draw with
      | false =>
        show Res.Le (Res.bind (runOps cx (callF cx (exec cx n)) ops.toList ops.toList F S) _) (Res.bind (runOps cx (callF cx (exec cx (n + 1))) ops.toList ops.toList F S) _)
        exact .bind (runOps_le hK _ _ _ _) fun r => .refl _
      | true =>
        show Res.Le (Res.bind (runDrawn cx (callF cx (exec cx n)) ops.toList F S) _) (Res.bind (runDrawn cx (callF cx (exec cx (n + 1))) ops.toList F S) _)
        exact .bind (runDrawn_le hK _ _ _) fun r => .refl _
    | seq x y =>
      show Res.Le (Res.bind (exec cx n x F S) fun o => match o.ex with
        | .normal => exec cx n y o.F o.S
        | _ => .ok o []) (Res.bind (exec cx (n + 1) x F S) fun o => match o.ex with
        | .normal => exec cx (n + 1) y o.F o.S
        | _ => .ok o [])
      refine .bind (ih _ _ _) fun o => ?_
      cases o.ex <;> first | exact ih _ _ _ | exact .refl _
    | cond x y z =>
      show Res.Le (match eval F x with
        | .bool true => exec cx n y F S
        | .bool false => exec cx n z F S
        | _ => .err 3001) (match eval F x with
        | .bool true => exec cx (n + 1) y F S
        | .bool false => exec cx (n + 1) z F S
        | _ => .err 3001)
      split
      · exact ih _ _ _
      · exact ih _ _ _
      · exact .refl _
    | block id b =>
      exact .bind (ih b F S) fun o => .refl _
    | loop b =>
      show Res.Le (Res.bind (exec cx n b F S) fun o => match o.ex with
        | .normal => exec cx n (.loop b) o.F o.S
        | _ => .ok o []) (Res.bind (exec cx (n + 1) b F S) fun o => match o.ex with
        | .normal => exec cx (n + 1) (.loop b) o.F o.S
        | _ => .ok o [])
      refine .bind (ih _ _ _) fun o => ?_
      cases o.ex <;> first | exact ih _ _ _ | exact .refl _
    | rangeFunc f p x y => exact rangeF_le ih f p x y F S
    | scope b => exact scopeF_le ih b n b F S
    | label l => exact .refl _
    | goto l => exact .refl _
    | refuse s => exact .refl _
theorem exec_mono {cx : Cx} {n m : Nat} (h : n ≤ m) (c : Code) (F : Fr) (S : AS) : Res.Le (exec cx n c F S) (exec cx m c F S) := by
  induction h with
  | refl => exact .refl _
  | step _ ih => exact ih.trans (exec_le _ c F S)
theorem call_mono {cx : Cx} {n m : Nat} (h : n ≤ m) : KLe (callF cx (exec cx n)) (callF cx (exec cx m)) := callF_le fun c F S => exec_mono h c F S

theorem Res.all_bind_of {α β : Type} {r : Res α} {f : α → Res β} {p : β → Prop} (h : r.All fun x => (f x).All p) : (Res.bind r f).All p := by
  have app : ∀ {a b : Res β}, a.All p → b.All p → (Res.app a b).All p := by
    intro a b ha hb
    cases a with
    | err n => exact ha.elim
    | ok x xs =>
      cases b with
      | err n => exact hb.elim
      | ok y ys =>
        refine ⟨ha.1, fun z hz => ?_⟩
        rw [appL_eq] at hz
        rcases List.mem_append.1 hz with h1 | h1
        · exact ha.2 z h1
        · cases h1 with
          | head => exact hb.1
          | tail _ h2 => exact hb.2 z h2
  cases r with
  | err n => exact h.elim
  | ok x xs =>
    obtain ⟨h1, h2⟩ := h
    cases xs with
    | nil => exact h1
    | cons y ys =>
      show (Res.app (f x) (List.rec (motive := fun _ => α → Res β) (fun y => f y) (fun z _ ih y => Res.app (f y) (ih z)) ys y)).All p
      refine app h1 ?_
      clear h1
      induction ys generalizing y with
      | nil => exact h2 y (by simp)
      | cons z zs ih => exact app (h2 y (by simp)) (ih z fun u hu => h2 u (List.mem_cons_of_mem _ hu))
theorem Res.Le.all {α : Type} {r r' : Res α} (h : Res.Le r r') {p : α → Prop} (k : r.All p) : r'.All p := by
  cases r with
  | err n => exact k.elim
  | ok x xs => rw [h x xs rfl]; exact k
end Go.Am

namespace Go.Am
open Go Go.RowKit

/-! ### Frames -/
noncomputable def sl (F : Fr) (t : Nat) : AV := match F.t.get t with | some v => v | none => .undef
noncomputable def up (F : Fr) (d : Option Nat) (v : AV) : Fr := match d with | some d => ⟨F.t.set d v, F.n, F.ds⟩ | none => F
theorem sl_up (F : Fr) (d e : Nat) (v : AV) : sl (up F (some d) v) e = if e = d then v else sl F e := by
  unfold sl up
  by_cases h : e = d
  · subst h; simp only [get_set_same, if_true]
  · simp only [get_set_ne _ _ h, if_neg h]
theorem up_none (F : Fr) (v : AV) : up F none v = F := rfl
theorem n_up (F : Fr) (d : Option Nat) (v : AV) : (up F d v).n = F.n := by cases d <;> rfl
theorem ds_up (F : Fr) (d : Option Nat) (v : AV) : (up F d v).ds = F.ds := by cases d <;> rfl
theorem eval_tmp (F : Fr) (t : Nat) : eval F (.tmp t) = sl F t := eval_slot F t
theorem eval_const (F : Fr) (v : Value) : eval F (.const v) = ofV v := rfl
theorem eval_func (F : Fr) (f : Nat) : eval F (.func f) = .func (.func f) [] [] := rfl
theorem eval_global (F : Fr) (g : Nat) : eval F (.global g) = .glob g 0 := rfl
theorem ofV_bool (b : Bool) : ofV (.bool b) = .bool b := rfl
theorem ofV_int (k : IntKind) (n : Int) : ofV (.int k n) = .int k n := rfl
theorem ofV_string (s : ByteArray) : ofV (.string s) = .str (s.data.toList.map UInt8.toNat) := by
  show AV.str (mapL UInt8.toNat s.data.toList) = _
  rw [mapL_eq]
theorem ofV_nilp : ofV (.pointer none) = .nilp := rfl
theorem ofV_nils : ofV (.slice none 0 0) = .nils := rfl
theorem ofV_nilm : ofV (.map none) = .nilm := rfl
theorem ofV_nilf : ofV .nilFunc = .nilf := rfl
theorem ofV_niface : ofV .nilIface = .niface := rfl

/-! ### Calls -/
/-- One outcome, of which something holds. -/
def Res.One {α : Type} (r : Res α) (p : α → Prop) : Prop := ∃ x, r = .ok x [] ∧ p x
theorem Res.One.mono {α : Type} {r : Res α} {p q : α → Prop} (h : r.One p) (k : ∀ x, p x → q x) : r.One q := let ⟨x, e, hx⟩ := h; ⟨x, e, k x hx⟩
theorem Res.One.bind {α β : Type} {r : Res α} {f : α → Res β} {p : β → Prop} (h : r.One fun x => (f x).One p) : (Res.bind r f).One p := by
  obtain ⟨x, rfl, h⟩ := h
  exact h
theorem Res.One.all {α : Type} {r : Res α} {p : α → Prop} (h : r.One p) : r.All p := by
  obtain ⟨x, rfl, h⟩ := h
  exact ⟨h, fun y hy => by cases hy⟩
theorem Res.Le.one {α : Type} {r r' : Res α} (h : Res.Le r r') {p : α → Prop} (k : r.One p) : r'.One p := let ⟨x, e, hx⟩ := k; ⟨x, h x [] e, hx⟩

def isPanB (v : AV) : Bool := match v with | .pan _ => true | _ => false
theorem retR_val {r : AV × AS} (h : isPanB r.1 = false) : retR r = .ok (false, r.1, r.2) [] := by
  obtain ⟨v, S⟩ := r
  cases v <;> first | rfl | cases h
def CallW (cx : Cx) (f : FuncId) (as : List AV) (S : AS) (Q : AV → AS → Prop) : Prop := ∃ n, (call cx n f as S).One fun r => isPanB r.1 = false ∧ Q r.1 r.2
theorem CallW.mono {cx : Cx} {f : FuncId} {as : List AV} {S : AS} {Q Q' : AV → AS → Prop} (h : CallW cx f as S Q) (k : ∀ v S', Q v S' → Q' v S') : CallW cx f as S Q' := by
  obtain ⟨n, h⟩ := h
  exact ⟨n, h.mono fun r hr => ⟨hr.1, k _ _ hr.2⟩⟩
/-- A function that is known. -/
theorem callW_prim {cx : Cx} {f : FuncId} {q : List AV → AS → Option (AV × AS)} {as : List AV} {S S' : AS} {v : AV} {Q : AV → AS → Prop} (h : cx.prims.get f = some q) (hu : cx.pures.get f = none) (hq : q as S = some (v, S')) (hn : isPanB v = false) : CallW cx f as S Q = Q v S' := by
  have e : ∀ n, call cx n f as S = .ok (v, S') [] := by
    intro n
    unfold call callF pureF fnF
    simp only [hu, h, hq]
  apply propext
  constructor
  · rintro ⟨n, r, e1, hr⟩
    rw [e n] at e1
    cases e1
    exact hr.2
  · intro hh
    exact ⟨0, _, e 0, hn, hh⟩

/-! ### Operations -/
noncomputable def wantS (ops : List Oper) (F : Fr) (g : Option (Nat × Bool)) : Option Bool :=
  match g with
  | none => some true
  | some (j, want) => match ops[j]? with
    | some p => match p.dst with
      | some d => match sl F d with
        | .bool b => some (cond want b (!b))
        | .top => none
        | _ => some false
      | none => some false
    | none => some false
theorem wantS_eq (ops : List Oper) (F : Fr) (o : Oper) : wanted ops F o = wantS ops F o.guard := by
  unfold wanted wantS
  cases o.guard with
  | none => rfl
  | some jw =>
    obtain ⟨j, w⟩ := jw
    simp only [nth_eq]
    cases ops[j]? with
    | none => rfl
    | some p =>
      simp only []
      cases p.dst with
      | none => rfl
      | some d =>
        simp only [sl]
        cases F.t.get d with
        | none => rfl
        | some v => cases v <;> rfl

/-- What an operation comes to. -/
def runP (cx : Cx) (r : AR) (K : AV → AS → Prop) : Prop :=
  match r with
  | .val v S' => K v S'
  | .enter f as S' => CallW cx f as S' K
  | _ => False
/-- One operation. -/
def stepP (cx : Cx) (ops : List Oper) (o : Oper) (F : Fr) (S : AS) (K : AV → AS → Prop) : Prop :=
  match wantS ops F o.guard with
  | some b => (b = true → runP cx (aop cx F S o) K) ∧ (b = false → K .undef S)
  | none => False
def opsP (cx : Cx) (ops : List Oper) : List Oper → Fr → AS → (Fr → AS → Prop) → Prop
  | [], F, S, Q => Q F S
  | o :: l, F, S, Q => stepP cx ops o F S fun v S' => opsP cx ops l (up F o.dst v) S' Q

def dst1 (n : Nat) (o : Oper) : Bool := match o.dst with | some d => Nat.blt d n | none => true
def dstOk (n : Nat) (l : List Oper) : Bool := l.all (dst1 n)
theorem putD_up {F : Fr} {o : Oper} (v : AV) (h : dst1 F.n o = true) : putD F o.dst v = up F o.dst v := by
  unfold dst1 at h
  cases hd : o.dst with
  | none => rfl
  | some d => rw [hd] at h; simp only at h; rw [putD_some, h]; rfl

theorem one_ok {cx : Cx} {ops : List Oper} {o : Oper} {F : Fr} {S : AS} {K : AV → AS → Prop} (h : stepP cx ops o F S K) : ∃ n, (one cx (callF cx (exec cx n)) ops o F S).One fun r => r.1 = false ∧ K r.2.1 r.2.2 := by
  unfold stepP at h
  unfold one
  rw [wantS_eq]
  cases hw : wantS ops F o.guard with
  | none => rw [hw] at h; exact h.elim
  | some b =>
    rw [hw] at h
    cases b with
    | true =>
      have h1 := h.1 rfl
      unfold runP at h1
      simp only []
      cases ha : aop cx F S o with
      | val v S' => rw [ha] at h1; exact ⟨0, _, rfl, rfl, h1⟩
      | round f as S' => rw [ha] at h1; exact h1.elim
      | pan v S' => rw [ha] at h1; exact h1.elim
      | many l => rw [ha] at h1; exact h1.elim
      | enter f as S' =>
        rw [ha] at h1
        obtain ⟨n, r, e1, e2, e3⟩ := h1
        refine ⟨n, (false, r.1, r.2), ?_, rfl, e3⟩
        have e4 : callF cx (exec cx n) (.fn f) as S' = .ok r [] := e1
        simp only [e4]
        exact retR_val e2
      | err n => rw [ha] at h1; exact h1.elim
    | false => exact ⟨0, _, rfl, rfl, h.2 rfl⟩
theorem aop_defer {cx : Cx} {F : Fr} {S : AS} {o : Oper} {c : Call} (h : isDefer o = some c) : ∃ n, aop cx F S o = .err n := by
  obtain ⟨dst, op, ty, pos, after, guard⟩ := o
  cases op <;> first | (cases h; done) | exact ⟨_, rfl⟩
/-- The frame's size and its deferred calls. -/
def Fx (F F' : Fr) : Prop := F'.n = F.n ∧ F'.ds = F.ds
theorem Fx.refl (F : Fr) : Fx F F := ⟨rfl, rfl⟩
theorem Fx.trans {F F' F'' : Fr} (h : Fx F F') (k : Fx F' F'') : Fx F F'' := ⟨k.1.trans h.1, k.2.trans h.2⟩
theorem Fx.of_up {F F' : Fr} {d : Option Nat} {v : AV} (h : Fx (up F d v) F') : Fx F F' := ⟨h.1.trans (n_up F d v), h.2.trans (ds_up F d v)⟩

theorem runOps_ok {cx : Cx} {ops : List Oper} : ∀ {l : List Oper} {F : Fr} {S : AS} {Q : Fr → AS → Prop}, dstOk F.n l = true → opsP cx ops l F S Q →
    ∃ n, (runOps cx (callF cx (exec cx n)) ops l F S).One fun r => r.1 = none ∧ Q r.2.1 r.2.2 ∧ Fx F r.2.1
  | [], F, S, Q, _, h => ⟨0, _, rfl, rfl, h, Fx.refl F⟩
  | o :: l, F, S, Q, hd, h => by
    have hd' : (dst1 F.n o && dstOk F.n l) = true := hd
    rw [Bool.and_eq_true] at hd'
    have hs : stepP cx ops o F S fun v S' => opsP cx ops l (up F o.dst v) S' Q := h
    have hun : ∀ K, runOps cx K ops (o :: l) F S = (match isDefer o with
      | none => Res.bind (one cx K ops o F S) fun r => cond r.1 (.ok (some r.2.1, F, r.2.2) []) (runOps cx K ops l (putD F o.dst r.2.1) r.2.2)
      | some c => match wanted ops F o with
        | some true => match deferV F c with
          | some d => runOps cx K ops l (putD ⟨F.t, F.n, d :: F.ds⟩ o.dst .undef) S
          | none => .err 1009
        | some false => runOps cx K ops l (putD F o.dst .undef) S
        | none => .err 1010) := fun K => rfl
    cases hdf : isDefer o with
    | some c =>
      unfold stepP at hs
      cases hw : wantS ops F o.guard with
      | none => rw [hw] at hs; exact hs.elim
      | some b =>
        rw [hw] at hs
        cases b with
        | true =>
          obtain ⟨m, hm⟩ := aop_defer (cx := cx) (F := F) (S := S) hdf
          have h1 := hs.1 rfl
          rw [hm] at h1
          exact h1.elim
        | false =>
          obtain ⟨m, h3⟩ := runOps_ok (l := l) (by rw [n_up]; exact hd'.2) (hs.2 rfl)
          refine ⟨m, ?_⟩
          rw [hun, hdf]
          simp only [wantS_eq, hw]
          rw [putD_up _ hd'.1]
          exact h3.mono fun r hr => ⟨hr.1, hr.2.1, hr.2.2.of_up⟩
    | none =>
      obtain ⟨n, r, h1, h0, h2⟩ := one_ok hs
      obtain ⟨m, h3⟩ := runOps_ok (l := l) (by rw [n_up]; exact hd'.2) h2
      refine ⟨n + m, ?_⟩
      rw [hun, hdf]
      simp only []
      refine Res.One.bind ⟨r, (one_le (cx := cx) (K := callF cx (exec cx n)) (K' := callF cx (exec cx (n + m))) (call_mono (Nat.le_add_right n m)) ops o F S) _ _ h1, ?_⟩
      simp only [h0, cond_false]
      rw [putD_up _ hd'.1]
      exact ((runOps_le (K := callF cx (exec cx m)) (K' := callF cx (exec cx (n + m))) (call_mono (Nat.le_add_left m n)) ops l _ _).one h3).mono fun r hr => ⟨hr.1, hr.2.1, hr.2.2.of_up⟩

/-! ### A region that draws its order -/
/-- A region's rows, in their text's order: what is asked for each. -/
def rowsP (cx : Cx) (ops : List Oper) : List Row → Fr → AS → List Pend → List AS → Nat → (Fr → AS → List AS → Prop) → Prop
  | [], F, S, ps, sn, _, Q => Q F (commit (fun _ => true) ps S) (S :: sn)
  | r :: l, F, S, ps, sn, id, Q =>
    match r.cls with
    | .fresh => match wantS ops F r.o.guard with
      | some b => (b = true → ∃ v x, freshV cx F id r.o.op = some (v, x) ∧ rowsP cx ops l (up F r.o.dst v) S (⟨r.i, id, x⟩ :: ps) sn (id + 1) Q) ∧ (b = false → rowsP cx ops l (up F r.o.dst .undef) S ps sn id Q)
      | none => False
    | .eff => stepP cx ops r.o F (commit (fun p => bit r.bef p.i) ps S) fun v S' => rowsP cx ops l (up F r.o.dst v) S' (filL (fun p => !bit r.bef p.i) ps) (S :: sn) id Q
    | _ => match wantS ops F r.o.guard with
      | some b => (b = true → ∃ v S', aop cx F S r.o = .val v S' ∧ rowsP cx ops l (up F r.o.dst v) S ps sn id Q) ∧ (b = false → rowsP cx ops l (up F r.o.dst .undef) S ps sn id Q)
      | none => False
theorem oneV_eq (cx : Cx) (ops : List Oper) (F : Fr) (S : AS) (o : Oper) : oneV cx ops F S o = (match wantS ops F o.guard with
    | some true => match aop cx F S o with
      | .val v _ => some v
      | _ => none
    | some false => some .undef
    | none => none) := by
  unfold oneV
  rw [wantS_eq]
  rfl
def dstRows (n : Nat) (l : List Row) : Bool := l.all fun r => dst1 n r.o
theorem runRows_ok {cx : Cx} {ops : List Oper} : ∀ {l : List Row} {F : Fr} {S : AS} {ps : List Pend} {sn : List AS} {id : Nat} {Q : Fr → AS → List AS → Prop}, dstRows F.n l = true → rowsP cx ops l F S ps sn id Q →
    ∃ n, (runRows cx (callF cx (exec cx n)) ops l F S ps sn id).One fun r => r.1 = none ∧ Q r.2.1 r.2.2.1 r.2.2.2 ∧ Fx F r.2.1
  | [], F, S, ps, sn, id, Q, _, h => ⟨0, _, rfl, rfl, h, Fx.refl F⟩
  | r :: l, F, S, ps, sn, id, Q, hd, h => by
    have hd' : (dst1 F.n r.o && dstRows F.n l) = true := hd
    rw [Bool.and_eq_true] at hd'
    have e : ∀ K, runRows cx K ops (r :: l) F S ps sn id = (match r.cls with
      | .fresh => match wanted ops F r.o with
        | some true => match freshV cx F id r.o.op with
          | some (v, x) => runRows cx K ops l (putD F r.o.dst v) S (⟨r.i, id, x⟩ :: ps) sn (Nat.succ id)
          | none => .err 1001
        | some false => runRows cx K ops l (putD F r.o.dst .undef) S ps sn id
        | none => .err 1002
      | .eff =>
        Res.bind (Res.sole (one cx K ops r.o F (commit (fun p => bit r.bef p.i) ps S))) fun q => cond q.1 (cond (allL (fun q => bit q.bef r.i) l) (.ok (some (r.i, q.2.1, q.2.2), F, S, S :: sn) []) (.err 1007)) (runRows cx K ops l (putD F r.o.dst q.2.1) q.2.2 (filL (fun p => !bit r.bef p.i) ps) (S :: sn) id)
      | _ => match oneV cx ops F S r.o with
        | some v => runRows cx K ops l (putD F r.o.dst v) S ps sn id
        | none => .err 1006) := fun K => rfl
    have e2 : rowsP cx ops (r :: l) F S ps sn id Q = (match r.cls with
    | .fresh => match wantS ops F r.o.guard with
      | some b => (b = true → ∃ v x, freshV cx F id r.o.op = some (v, x) ∧ rowsP cx ops l (up F r.o.dst v) S (⟨r.i, id, x⟩ :: ps) sn (id + 1) Q) ∧ (b = false → rowsP cx ops l (up F r.o.dst .undef) S ps sn id Q)
      | none => False
    | .eff => stepP cx ops r.o F (commit (fun p => bit r.bef p.i) ps S) fun v S' => rowsP cx ops l (up F r.o.dst v) S' (filL (fun p => !bit r.bef p.i) ps) (S :: sn) id Q
    | _ => match wantS ops F r.o.guard with
      | some b => (b = true → ∃ v S', aop cx F S r.o = .val v S' ∧ rowsP cx ops l (up F r.o.dst v) S ps sn id Q) ∧ (b = false → rowsP cx ops l (up F r.o.dst .undef) S ps sn id Q)
      | none => False) := by cases hc : r.cls <;> simp only [rowsP, hc]
    rw [e2] at h
    have rest : ∀ (v : AV) (S' : AS) (ps' : List Pend) (sn' : List AS) (id' : Nat), rowsP cx ops l (up F r.o.dst v) S' ps' sn' id' Q →
        ∃ n, (runRows cx (callF cx (exec cx n)) ops l (putD F r.o.dst v) S' ps' sn' id').One fun r => r.1 = none ∧ Q r.2.1 r.2.2.1 r.2.2.2 ∧ Fx F r.2.1 := by
      intro v S' ps' sn' id' hh
      obtain ⟨n, h1⟩ := runRows_ok (l := l) (by rw [n_up]; exact hd'.2) hh
      rw [putD_up _ hd'.1]
      exact ⟨n, h1.mono fun r hr => ⟨hr.1, hr.2.1, hr.2.2.of_up⟩⟩
    have val : (match wantS ops F r.o.guard with
      | some b => (b = true → ∃ v S', aop cx F S r.o = .val v S' ∧ rowsP cx ops l (up F r.o.dst v) S ps sn id Q) ∧ (b = false → rowsP cx ops l (up F r.o.dst .undef) S ps sn id Q)
      | none => False) → ∃ n, (match oneV cx ops F S r.o with
        | some v => runRows cx (callF cx (exec cx n)) ops l (putD F r.o.dst v) S ps sn id
        | none => .err 1006).One fun r => r.1 = none ∧ Q r.2.1 r.2.2.1 r.2.2.2 ∧ Fx F r.2.1 := by
      intro hh
      rw [oneV_eq]
      cases hw : wantS ops F r.o.guard with
      | none => rw [hw] at hh; exact hh.elim
      | some b =>
        rw [hw] at hh
        cases b with
        | true =>
          obtain ⟨v, S', h1, h2⟩ := hh.1 rfl
          simp only [h1]
          exact rest _ _ _ _ _ h2
        | false => exact rest _ _ _ _ _ (hh.2 rfl)
    cases hc : r.cls with
    | pure =>
      rw [hc] at h
      obtain ⟨n, h1⟩ := val h
      exact ⟨n, by rw [e, hc]; exact h1⟩
    | read =>
      rw [hc] at h
      obtain ⟨n, h1⟩ := val h
      exact ⟨n, by rw [e, hc]; exact h1⟩
    | fresh =>
      rw [hc] at h
      simp only [] at h
      cases hw : wantS ops F r.o.guard with
      | none => rw [hw] at h; exact h.elim
      | some b =>
        rw [hw] at h
        cases b with
        | true =>
          obtain ⟨v, x, h1, h2⟩ := h.1 rfl
          obtain ⟨n, h3⟩ := rest _ _ _ _ _ h2
          refine ⟨n, ?_⟩
          rw [e, hc]
          simp only [wantS_eq, hw, h1]
          exact h3
        | false =>
          obtain ⟨n, h3⟩ := rest _ _ _ _ _ (h.2 rfl)
          refine ⟨n, ?_⟩
          rw [e, hc]
          simp only [wantS_eq, hw]
          exact h3
    | eff =>
      rw [hc] at h
      obtain ⟨n, q, h1, h0, h2⟩ := one_ok h
      obtain ⟨m, h3⟩ := rest _ _ _ _ _ h2
      refine ⟨n + m, ?_⟩
      rw [e, hc]
      refine Res.One.bind ⟨q, ?_, ?_⟩
      · have h4 := (one_le (cx := cx) (K := callF cx (exec cx n)) (K' := callF cx (exec cx (n + m))) (call_mono (Nat.le_add_right n m)) ops r.o F _) _ _ h1
        rw [h4]; rfl
      · simp only [h0, cond_false]
        exact (runRows_le (K := callF cx (exec cx m)) (K' := callF cx (exec cx (n + m))) (call_mono (Nat.le_add_left m n)) ops l _ _ _ _ _).one h3

/-- What is asked of the reading operations: that each gives the same wherever it may stand. -/
def winP (cx : Cx) (ops : List Oper) (rows : List Row) (F : Fr) (snaps : List AS) : Prop := ∀ q, q ∈ rows → isRead q.cls = true → windowOk cx ops rows F snaps q = true
/-- The plan of a region. -/
noncomputable def planR (cx : Cx) (ops : List Oper) : Option (List Row) := cond (planOk ops (settle (rowsL cx ops))) (some (settle (rowsL cx ops))) none
noncomputable def freshN (rows : List Row) : Nat := countL (fun r => isFresh r.cls) rows
def drawnP0 (cx : Cx) (ops : List Oper) (F : Fr) (S : AS) (Q : Fr → AS → Prop) : Prop :=
  match planR cx ops with
  | some rows => rowsP cx ops rows F ⟨S.h, S.next + freshN rows⟩ [] [] S.next fun F' S' sn => winP cx ops rows F' (revL sn) ∧ Q F' S'
  | none => False
/-- .. under a cover that the kernel does not lift: the rows fork at each guard. -/
structure drawnP (cx : Cx) (ops : List Oper) (F : Fr) (S : AS) (Q : Fr → AS → Prop) : Prop where
  run : drawnP0 cx ops F S Q
theorem drawn_ok1 {cx : Cx} {ops : List Oper} {F : Fr} {S : AS} {Q : Fr → AS → Prop} (hd : dstRows F.n (settle (rowsL cx ops)) = true) (h : drawnP cx ops F S Q) :
    ∃ n, (runDrawn cx (callF cx (exec cx n)) ops F S).One fun r => r.1 = none ∧ Q r.2.1 r.2.2 ∧ Fx F r.2.1 := by
  replace h := h.run
  unfold drawnP0 planR at h
  cases hp : planOk ops (settle (rowsL cx ops)) with
  | false => rw [hp] at h; exact h.elim
  | true =>
    rw [hp] at h
    obtain ⟨n, r, h1, h0, ⟨h2, h3⟩, h4⟩ := runRows_ok hd h
    refine ⟨n, ?_⟩
    unfold runDrawn
    simp only [hp, cond_true]
    refine Res.One.bind ⟨r, h1, ?_⟩
    have hw : winAll cx ops (settle (rowsL cx ops)) r.2.1 (revL r.2.2.2) = true := by
      unfold winAll
      rw [allL_eq, List.all_eq_true]
      intro q hq
      cases hr : isRead q.cls with
      | false => rfl
      | true => exact h2 q hq hr
    have he : endRows cx ops (settle (rowsL cx ops)) r = .ok (none, r.2.1, r.2.2.1) [] := by
      unfold endRows
      rw [h0]
      simp only []
      rw [hw]
      rfl
    show (endRows cx ops (settle (rowsL cx ops)) r).One _
    rw [he]
    exact ⟨_, rfl, rfl, h3, h4⟩

/-! ### Code -/
/-- Does the code write the frame's own slots alone? -/
noncomputable def codeOk (cx : Cx) (n : Nat) : Code → Bool
  | .region _ ops false => dstOk n ops.toList
  | .region _ ops true => dstRows n (settle (rowsL cx ops.toList))
  | .seq a b => codeOk cx n a && codeOk cx n b
  | .cond _ a b => codeOk cx n a && codeOk cx n b
  | .block _ b => codeOk cx n b
  | .loop b => codeOk cx n b
  | .scope b => codeOk cx n b
  | _ => true
/-- What goes on where a piece of code ends normally. -/
def thenP (R : Fr → AS → Prop) (Q : Ex → Fr → AS → Prop) : Ex → Fr → AS → Prop
  | .normal, F, S => R F S
  | e, F, S => Q e F S
def blockP (id : Nat) (Q : Ex → Fr → AS → Prop) : Ex → Fr → AS → Prop
  | .exit j, F, S => if j = id then Q .normal F S else Q (.exit j) F S
  | e, F, S => Q e F S
/-- A scope within which nothing jumps. -/
def scopeP (Q : Ex → Fr → AS → Prop) : Ex → Fr → AS → Prop
  | .goto _, _, _ => False
  | e, F, S => Q e F S
def condP (x : AV) (A B : Prop) : Prop := match x with | .bool t => (t = true → A) ∧ (t = false → B) | _ => False
/-- A loop, run. -/
def LoopP (cx : Cx) (b : Code) (F : Fr) (S : AS) (Q : Ex → Fr → AS → Prop) : Prop := codeOk cx F.n b = true → ∃ n, (exec cx n (.loop b) F S).One fun o => Q o.ex o.F o.S ∧ Fx F o.F
def wpP (cx : Cx) : Code → Fr → AS → (Ex → Fr → AS → Prop) → Prop
  | .skip, F, S, Q => Q .normal F S
  | .ret, F, S, Q => Q .ret F S
  | .exit id, F, S, Q => Q (.exit id) F S
  | .region _ ops false, F, S, Q => opsP cx ops.toList ops.toList F S (Q .normal)
  | .region _ ops true, F, S, Q => drawnP cx ops.toList F S (Q .normal)
  | .seq a b, F, S, Q => wpP cx a F S (thenP (fun F' S' => wpP cx b F' S' Q) Q)
  | .cond x a b, F, S, Q => condP (eval F x) (wpP cx a F S Q) (wpP cx b F S Q)
  | .block id b, F, S, Q => wpP cx b F S (blockP id Q)
  | .loop b, F, S, Q => LoopP cx b F S Q
  | .scope b, F, S, Q => wpP cx b F S (scopeP Q)
  | .label _, F, S, Q => Q .normal F S
  | _, _, _, _ => False

theorem wpP_ok {cx : Cx} : ∀ (c : Code) {F : Fr} {S : AS} {Q : Ex → Fr → AS → Prop}, codeOk cx F.n c = true → wpP cx c F S Q → ∃ n, (exec cx n c F S).One fun o => Q o.ex o.F o.S ∧ Fx F o.F := by
  intro c
  induction c with
  | skip => intro F S Q _ h; exact ⟨1, _, rfl, h, Fx.refl F⟩
  | ret => intro F S Q _ h; exact ⟨1, _, rfl, h, Fx.refl F⟩
  | exit id => intro F S Q _ h; exact ⟨1, _, rfl, h, Fx.refl F⟩
  | region id ops draw =>
    intro F S Q hc h
    cases draw with
    | false =>
      obtain ⟨n, h⟩ := runOps_ok hc h
      refine ⟨n + 1, ?_⟩
      show (Res.bind (runOps cx (callF cx (exec cx n)) ops.toList ops.toList F S) fun r => match r.1 with
        | none => .ok (⟨.normal, r.2.1, r.2.2⟩ : Out) []
        | some v => .ok (⟨.pan v, r.2.1, r.2.2⟩ : Out) []).One _
      exact Res.One.bind (h.mono fun r hr => by rw [hr.1]; exact ⟨_, rfl, hr.2⟩)
    | true =>
      obtain ⟨n, h⟩ := drawn_ok1 hc h
      refine ⟨n + 1, ?_⟩
      show (Res.bind (runDrawn cx (callF cx (exec cx n)) ops.toList F S) fun r => match r.1 with
        | none => .ok (⟨.normal, r.2.1, r.2.2⟩ : Out) []
        | some v => .ok (⟨.pan v, r.2.1, r.2.2⟩ : Out) []).One _
      exact Res.One.bind (h.mono fun r hr => by rw [hr.1]; exact ⟨_, rfl, hr.2⟩)
  | seq a b iha ihb =>
    intro F S Q hc h
    have hc' : (codeOk cx F.n a && codeOk cx F.n b) = true := hc
    rw [Bool.and_eq_true] at hc'
    obtain ⟨n, o, h1, h2, h3⟩ := iha hc'.1 h
    have h4 : ∃ m, (match o.ex with | .normal => exec cx m b o.F o.S | _ => .ok o []).One fun o => Q o.ex o.F o.S ∧ Fx F o.F := by
      obtain ⟨e, F', S'⟩ := o
      cases e with
      | normal =>
        obtain ⟨m, h5⟩ := ihb (F := F') (by rw [h3.1]; exact hc'.2) h2
        exact ⟨m, h5.mono fun o ho => ⟨ho.1, h3.trans ho.2⟩⟩
      | goto l => exact ⟨0, _, rfl, h2, h3⟩
      | pan v => exact ⟨0, _, rfl, h2, h3⟩
      | exit id => exact ⟨0, _, rfl, h2, h3⟩
      | ret => exact ⟨0, _, rfl, h2, h3⟩
    obtain ⟨m, h4⟩ := h4
    refine ⟨n + m + 1, ?_⟩
    show (Res.bind (exec cx (n + m) a F S) fun o => match o.ex with | .normal => exec cx (n + m) b o.F o.S | _ => .ok o []).One _
    refine Res.One.bind ⟨o, exec_mono (Nat.le_add_right n m) a F S _ _ h1, ?_⟩
    obtain ⟨e, F', S'⟩ := o
    cases e with
    | normal => exact (exec_mono (Nat.le_add_left m n) b F' S').one h4
    | goto l => exact h4
    | pan v => exact h4
    | exit id => exact h4
    | ret => exact h4
  | cond x a b iha ihb =>
    intro F S Q hc h
    have hc' : (codeOk cx F.n a && codeOk cx F.n b) = true := hc
    rw [Bool.and_eq_true] at hc'
    have h' : condP (eval F x) (wpP cx a F S Q) (wpP cx b F S Q) := h
    unfold condP at h'
    cases hx : eval F x <;> rw [hx] at h' <;> (try exact h'.elim)
    rename_i t
    cases t with
    | true =>
      obtain ⟨n, h1⟩ := iha hc'.1 (h'.1 rfl)
      refine ⟨n + 1, ?_⟩
      show (match eval F x with | .bool true => exec cx n a F S | .bool false => exec cx n b F S | _ => .err 3001).One _
      rw [hx]; exact h1
    | false =>
      obtain ⟨n, h1⟩ := ihb hc'.2 (h'.2 rfl)
      refine ⟨n + 1, ?_⟩
      show (match eval F x with | .bool true => exec cx n a F S | .bool false => exec cx n b F S | _ => .err 3001).One _
      rw [hx]; exact h1
  | block id b ihb =>
    intro F S Q hc h
    obtain ⟨n, o, h1, h2, h3⟩ := ihb hc h
    refine ⟨n + 1, ?_⟩
    show (Res.bind (exec cx n b F S) fun o => match o.ex with
      | .exit j => cond (Nat.beq j id) (.ok ⟨.normal, o.F, o.S⟩ []) (.ok o [])
      | _ => .ok o []).One _
    refine Res.One.bind ⟨o, h1, ?_⟩
    obtain ⟨e, F', S'⟩ := o
    cases e with
    | normal => exact ⟨_, rfl, h2, h3⟩
    | ret => exact ⟨_, rfl, h2, h3⟩
    | goto l => exact ⟨_, rfl, h2, h3⟩
    | pan v => exact ⟨_, rfl, h2, h3⟩
    | exit j =>
      have h2' : if j = id then Q .normal F' S' else Q (.exit j) F' S' := h2
      simp only [nbeq]
      by_cases hj : j = id
      · rw [if_pos hj] at h2'; rw [decide_eq_true hj]; exact ⟨_, rfl, h2', h3⟩
      · rw [if_neg hj] at h2'; rw [decide_eq_false hj]; exact ⟨_, rfl, h2', h3⟩
  | loop b _ => intro F S Q hc h; exact h hc
  | rangeFunc f p x y _ _ => intro F S Q _ h; exact h.elim
  | scope b ihb =>
    intro F S Q hc h
    obtain ⟨n, o, h1, h2, h3⟩ := ihb hc h
    refine ⟨n + 2, ?_⟩
    show (Res.bind (exec cx (n + 1) b F S) fun o => match o.ex with
      | .goto l => match findLabel b l with
        | some rest => scopeF (exec cx (n + 1)) b n rest o.F o.S
        | none => .ok o []
      | _ => .ok o []).One _
    refine Res.One.bind ⟨o, exec_mono (Nat.le_succ n) b F S _ _ h1, ?_⟩
    obtain ⟨e, F', S'⟩ := o
    cases e with
    | normal => exact ⟨_, rfl, h2, h3⟩
    | ret => exact ⟨_, rfl, h2, h3⟩
    | goto l => exact h2.elim
    | pan v => exact ⟨_, rfl, h2, h3⟩
    | exit j => exact ⟨_, rfl, h2, h3⟩
  | label l => intro F S Q _ h; exact ⟨1, _, rfl, h, Fx.refl F⟩
  | goto l => intro F S Q _ h; exact h.elim
  | refuse s => intro F S Q _ h; exact h.elim

/-- A loop, by what holds at each round's head and a number that goes down. -/
theorem loopP_of {cx : Cx} {b : Code} {F : Fr} {S : AS} {Q : Ex → Fr → AS → Prop} (I : Nat → Fr → AS → Prop) (k : Nat) (h0 : I k F S)
    (h : ∀ (k : Nat) (F' : Fr) (S' : AS), F'.n = F.n → I k F' S' → wpP cx b F' S' (thenP (fun F2 S2 => ∃ j, j < k ∧ I j F2 S2) Q)) : LoopP cx b F S Q := by
  intro hc
  have main : ∀ (k : Nat) (F' : Fr) (S' : AS), I k F' S' → Fx F F' → ∃ n, (exec cx n (.loop b) F' S').One fun o => Q o.ex o.F o.S ∧ Fx F o.F := by
    intro k
    induction k using Nat.strongRecOn with
    | ind k ih =>
      intro F' S' hI hn
      obtain ⟨n, o, h1, h2, h3⟩ := wpP_ok b (by rw [hn.1]; exact hc) (h k F' S' hn.1 hI)
      have h4 : ∃ m, (match o.ex with | .normal => exec cx m (.loop b) o.F o.S | _ => .ok o []).One fun o => Q o.ex o.F o.S ∧ Fx F o.F := by
        obtain ⟨e, F2, S2⟩ := o
        cases e with
        | normal => obtain ⟨j, hj, hI2⟩ := h2; exact ih j hj F2 S2 hI2 (hn.trans h3)
        | exit id => exact ⟨0, _, rfl, h2, hn.trans h3⟩
        | ret => exact ⟨0, _, rfl, h2, hn.trans h3⟩
        | goto l => exact ⟨0, _, rfl, h2, hn.trans h3⟩
        | pan v => exact ⟨0, _, rfl, h2, hn.trans h3⟩
      obtain ⟨m, h4⟩ := h4
      refine ⟨n + m + 1, ?_⟩
      show (Res.bind (exec cx (n + m) b F' S') fun o => match o.ex with | .normal => exec cx (n + m) (.loop b) o.F o.S | _ => .ok o []).One _
      refine Res.One.bind ⟨o, exec_mono (Nat.le_add_right n m) b F' S' _ _ h1, ?_⟩
      obtain ⟨e, F2, S2⟩ := o
      cases e with
      | normal => exact (exec_mono (Nat.le_add_left m n) (.loop b) F2 S2).one h4
      | goto l => exact h4
      | pan v => exact h4
      | exit id => exact h4
      | ret => exact h4
  exact main k F S h0 (Fx.refl F)

/-- A function's end. -/
def endP (r : Option AV) (S : AS) (Q : AV → AS → Prop) : Prop := match r with | some v => isPanB v = false ∧ Q v S | none => False
def bodyP (cx : Cx) (fn : Func) (Q : AV → AS → Prop) : Ex → Fr → AS → Prop
  | .exit _, _, _ => False
  | .goto _, _, _ => False
  | .pan _, _, _ => False
  | _, F, S => endP (resL cx F S fn.results.toList |>.map fun vs => match vs with | [v] => v | vs => .tuple vs) S Q
theorem resultsV_map (cx : Cx) (fn : Func) (F : Fr) (S : AS) : resultsV cx fn F S = (resL cx F S fn.results.toList).map fun vs => match vs with | [v] => v | vs => .tuple vs := by
  unfold resultsV
  cases resL cx F S fn.results.toList with
  | none => rfl
  | some vs => cases vs with
    | nil => rfl
    | cons v vs => cases vs <;> rfl
theorem sl_initF (as : List AV) (n t : Nat) : sl (initF as n) t = (as[t]?).getD .undef := by
  unfold sl initF
  simp only [get_ofL]
  by_cases ht : t < as.length
  · rw [if_pos ⟨Nat.zero_le _, by omega⟩, Nat.sub_zero, List.getElem?_eq_getElem ht]; rfl
  · rw [if_neg (by omega), get_leaf, List.getElem?_eq_none (by omega)]; rfl
theorem n_initF (as : List AV) (n : Nat) : (initF as n).n = as.length + (n - as.length) := by
  unfold initF
  simp [lenL_eq]

/-- A call that is entered: the frame is known by its slots. -/
theorem enterW {cx : Cx} {f : FuncId} {fn : Func} {c : Code} {as : List AV} {S : AS} {Q : AV → AS → Prop} (hu : cx.pures.get f = none) (hp : cx.prims.get f = none) (hf : cx.fns.get f = some fn) (hb : fn.body = some c) (hc : codeOk cx fn.ntmps c = true) (hn : as.length ≤ fn.ntmps)
    (h : ∀ F : Fr, F.n = fn.ntmps → (∀ t, sl F t = (as[t]?).getD .undef) → wpP cx c F S (bodyP cx fn Q)) : CallW cx f as S Q := by
  have hn' : (initF as fn.ntmps).n = fn.ntmps := by rw [n_initF]; omega
  obtain ⟨n, o, h1, h2, h3⟩ := wpP_ok c (F := initF as fn.ntmps) (by rw [hn']; exact hc) (h _ hn' (sl_initF as _))
  refine ⟨n, ?_⟩
  unfold call callF pureF fnF
  simp only [hu, hp, hf, hb]
  refine Res.One.bind ⟨o, h1, ?_⟩
  obtain ⟨e, F', S'⟩ := o
  have hds : F'.ds = [] := h3.2
  have key : endP (resultsV cx fn F' S') S' Q → (leaveL cx (exec cx n) fn F' F'.ds .ret S').One fun r => isPanB r.1 = false ∧ Q r.1 r.2 := by
    intro hk
    rw [hds]
    show (match resultsV cx fn F' S' with | some v => (.ok (v, S') [] : Res (AV × AS)) | none => .err 2001).One _
    cases hv : resultsV cx fn F' S' with
    | none => rw [hv] at hk; exact hk.elim
    | some v => rw [hv] at hk; exact ⟨_, rfl, hk⟩
  have h2' := h2
  cases e with
  | normal => refine key ?_; rw [resultsV_map]; exact h2'
  | ret => refine key ?_; rw [resultsV_map]; exact h2'
  | exit id => exact h2.elim
  | goto l => exact h2.elim
  | pan v => exact h2.elim

/-! ### Back to the model -/
theorem calls_of {Λ : LB} {P : Program} {A : Ask} (h : Ready P A) (hp : ∀ x, x ∈ A.prims → PrimOk Λ P x.1 x.2) (hg : ∀ x, x ∈ A.globs → GlobOk Λ.w Λ.B x.1 x.2) {ρ : Rho} {f : FuncId} {as : List AV} {S : AS} {w : World} {args : Array Value}
    (hR : R Λ ρ S w) (hl : LRel ρ as args.toList) {Q : AV → AS → Prop} (hc : CallW (mkCx P A) f as S Q) :
    (∃ fn, P.funcs[f]? = some fn ∧ fn.body.isSome = true) ∧ Calls P f args w fun e w' => ∃ x v S' ρ', e = .returned x ∧ VRel ρ' v x ∧ Q v S' ∧ R Λ ρ' S' w' ∧ Kp ρ S w ρ' S' w' := by
  obtain ⟨n, hc⟩ := hc
  have hcx := cx_ok h hp hg
  have hK := callF_ok hcx (code_ok hcx (drawn_ok hcx h.mixed) n).1
  refine hK ρ (.fn f) as S w args (fun e w' => ∃ x v S' ρ', e = .returned x ∧ VRel ρ' v x ∧ Q v S' ∧ R Λ ρ' S' w' ∧ Kp ρ S w ρ' S' w') (hc.all.mono fun r hr ρ' e w' h1 h2 h3 => ?_) hR hl
  rcases h1.cases with ⟨_, x, rfl, hx⟩ | ⟨u, x, hu, _, _⟩
  · exact ⟨x, r.1, r.2, ρ', rfl, hx, hr.2, h2, h3⟩
  · have := hr.1
    rw [hu] at this
    cases this
end Go.Am
