/-
  The abstract machine: a logic for code with several outcomes (a range over a map, a range over a function).
-/
import Derived.Test.YtgeghppdhjlbiaaGreatDoorAmPrim
import Derived.Test.YtgeghppdhjlbiaaGreatDoorAmCut
namespace Go.Am
open Go
set_option linter.unusedVariables false

/-! ### Outcomes -/
theorem Res.all_app' {α : Type} {a b : Res α} {p : α → Prop} (ha : a.All p) (hb : b.All p) : (Res.app a b).All p := by
  cases a with
  | err n => exact ha.elim
  | ok x xs =>
    cases b with
    | err n => exact hb.elim
    | ok y ys =>
      refine ⟨ha.1, fun z hz => ?_⟩
      simp only [appL_eq] at hz
      rcases List.mem_append.1 hz with h | h
      · exact ha.2 z h
      · cases h with
        | head => exact hb.1
        | tail _ h => exact hb.2 z h
theorem Res.All.bind {α β : Type} {r : Res α} {f : α → Res β} {p : β → Prop} (h : r.All fun x => (f x).All p) : (Res.bind r f).All p := by
  cases r with
  | err n => exact h.elim
  | ok x xs =>
    cases xs with
    | nil => exact h.1
    | cons y ys =>
      show (Res.app (f x) (List.rec (motive := fun _ => α → Res β) (fun y => f y) (fun z _ ih y => Res.app (f y) (ih z)) ys y)).All p
      obtain ⟨h1, h2⟩ := h
      refine Res.all_app' h1 ?_
      clear h1
      induction ys generalizing y with
      | nil => exact h2 y (List.mem_cons_self ..)
      | cons z ys ih => exact Res.all_app' (h2 y (List.mem_cons_self ..)) (ih z fun u hu => h2 u (List.mem_cons_of_mem _ hu))
/-- One fuel for all outcomes. -/
theorem Res.All.pick {α β : Type} {r : Res α} {f : Nat → α → Res β} {p : β → Prop} (hm : ∀ n m x, n ≤ m → Res.Le (f n x) (f m x)) (h : r.All fun x => ∃ n, (f n x).All p) : ∃ n, r.All fun x => (f n x).All p := by
  cases r with
  | err n => exact h.elim
  | ok x xs =>
    obtain ⟨⟨n, h1⟩, h2⟩ := h
    have key : ∀ xs : List α, (∀ y, y ∈ xs → ∃ n, (f n y).All p) → ∃ n, ∀ y, y ∈ xs → (f n y).All p := by
      intro xs
      induction xs with
      | nil => intro _; exact ⟨0, fun y hy => by cases hy⟩
      | cons z zs ih =>
        intro hz
        obtain ⟨a, ha⟩ := hz z (List.mem_cons_self ..)
        obtain ⟨b, hb⟩ := ih fun y hy => hz y (List.mem_cons_of_mem _ hy)
        refine ⟨a + b, fun y hy => ?_⟩
        cases hy with
        | head => exact (hm a (a + b) z (Nat.le_add_right ..)).all ha
        | tail _ hy => exact (hm b (a + b) y (Nat.le_add_left ..)).all (hb y hy)
    obtain ⟨m, hm'⟩ := key xs h2
    exact ⟨n + m, (hm n (n + m) x (Nat.le_add_right ..)).all h1, fun y hy => (hm m (n + m) y (Nat.le_add_left ..)).all (hm' y hy)⟩

/-! ### Calls, rounds, operations -/
def CallE (cx : Cx) (f : FuncId) (as : List AV) (S : AS) (Q : AV → AS → Prop) : Prop := ∃ n, (call cx n f as S).All fun r => isPanB r.1 = false ∧ Q r.1 r.2
theorem CallE.mono {cx : Cx} {f : FuncId} {as : List AV} {S : AS} {Q Q' : AV → AS → Prop} (h : CallE cx f as S Q) (k : ∀ v S', Q v S' → Q' v S') : CallE cx f as S Q' := by
  obtain ⟨n, h⟩ := h
  exact ⟨n, h.mono fun r hr => ⟨hr.1, k _ _ hr.2⟩⟩
theorem CallW.each {cx : Cx} {f : FuncId} {as : List AV} {S : AS} {Q : AV → AS → Prop} (h : CallW cx f as S Q) : CallE cx f as S Q := by
  obtain ⟨n, h⟩ := h
  exact ⟨n, h.all⟩
/-- A call of which the one outcome is known. -/
theorem callE_eq {cx : Cx} {f : FuncId} {as : List AV} {S T : AS} {v : AV} (h : ∀ Q : AV → AS → Prop, CallW cx f as S Q = Q v T) (Q : AV → AS → Prop) : CallE cx f as S Q = Q v T := by
  refine propext ⟨fun hq => ?_, fun hq => CallW.each (by rw [h]; exact hq)⟩
  obtain ⟨n, hn⟩ := hq
  have h1 : CallW cx f as S fun v' T' => v' = v ∧ T' = T := by rw [h]; exact ⟨rfl, rfl⟩
  obtain ⟨m, ⟨v', T'⟩, e, _, h2, h3⟩ := h1
  simp only at h2 h3
  subst h2 h3
  have h4 := (call_mono (cx := cx) (Nat.le_add_right n m) (.fn f) as S).all hn
  have h5 := call_mono (cx := cx) (Nat.le_add_left m n) (.fn f) as S _ _ e
  unfold call at h4
  rw [h5] at h4
  exact h4.1.2
def RoundE (cx : Cx) (id : Nat) (as : List AV) (S : AS) (Q : AV → AS → Prop) : Prop := ∃ n, (roundF (exec cx n) id as S).All fun r => isPanB r.1 = false ∧ Q r.1 r.2
theorem RoundE.mono {cx : Cx} {id : Nat} {as : List AV} {S : AS} {Q Q' : AV → AS → Prop} (h : RoundE cx id as S Q) (k : ∀ v S', Q v S' → Q' v S') : RoundE cx id as S Q' := by
  obtain ⟨n, h⟩ := h
  exact ⟨n, h.mono fun r hr => ⟨hr.1, k _ _ hr.2⟩⟩
def runE (cx : Cx) (r : AR) (K : AV → AS → Prop) : Prop :=
  match r with
  | .val v S' => K v S'
  | .enter f as S' => CallE cx f as S' K
  | .round id as S' => RoundE cx id as S' K
  | .many l => l ≠ [] ∧ ∀ y, y ∈ l → K y.1 y.2
  | _ => False
def stepM (cx : Cx) (ops : List Oper) (o : Oper) (F : Fr) (S : AS) (K : AV → AS → Prop) : Prop :=
  match wantS ops F o.guard with
  | some b => (b = true → runE cx (aop cx F S o) K) ∧ (b = false → K .undef S)
  | none => False
def opsE (cx : Cx) (ops : List Oper) : List Oper → Fr → AS → (Fr → AS → Prop) → Prop
  | [], F, S, Q => Q F S
  | o :: l, F, S, Q => stepM cx ops o F S fun v S' => opsE cx ops l (up F o.dst v) S' Q
theorem retR_allE {r : Res (AV × AS)} {K : AV → AS → Prop} (h : r.All fun r => isPanB r.1 = false ∧ K r.1 r.2) : (Res.bind r retR).All fun r => r.1 = false ∧ K r.2.1 r.2.2 :=
  Res.All.bind (h.mono fun r hr => by rw [retR_val hr.1]; exact ⟨⟨rfl, hr.2⟩, fun y hy => by cases hy⟩)
theorem one_okE {cx : Cx} {ops : List Oper} {o : Oper} {F : Fr} {S : AS} {K : AV → AS → Prop} (h : stepM cx ops o F S K) : ∃ n, (one cx (callF cx (exec cx n)) ops o F S).All fun r => r.1 = false ∧ K r.2.1 r.2.2 := by
  unfold stepM at h
  unfold one
  rw [wantS_eq]
  cases hw : wantS ops F o.guard with
  | none => rw [hw] at h; exact h.elim
  | some b =>
    rw [hw] at h
    cases b with
    | true =>
      have h1 := h.1 rfl
      unfold runE at h1
      simp only []
      cases ha : aop cx F S o with
      | val v S' => rw [ha] at h1; exact ⟨0, ⟨rfl, h1⟩, fun y hy => by cases hy⟩
      | round f as S' => rw [ha] at h1; obtain ⟨n, h1⟩ := h1; exact ⟨n, retR_allE h1⟩
      | pan v S' => rw [ha] at h1; exact h1.elim
      | many l =>
        rw [ha] at h1
        obtain ⟨h2, h3⟩ := h1
        refine ⟨0, ?_⟩
        cases l with
        | nil => exact absurd rfl h2
        | cons x xs =>
          refine ⟨⟨rfl, h3 x (List.mem_cons_self ..)⟩, fun y hy => ?_⟩
          obtain ⟨z, hz, rfl⟩ := List.mem_map.1 hy
          exact ⟨rfl, h3 z (List.mem_cons_of_mem _ hz)⟩
      | enter f as S' => rw [ha] at h1; obtain ⟨n, h1⟩ := h1; exact ⟨n, retR_allE h1⟩
      | err n => rw [ha] at h1; exact h1.elim
    | false => exact ⟨0, ⟨rfl, h.2 rfl⟩, fun y hy => by cases hy⟩
theorem runOps_okE {cx : Cx} {ops : List Oper} : ∀ {l : List Oper} {F : Fr} {S : AS} {Q : Fr → AS → Prop}, dstOk F.n l = true → opsE cx ops l F S Q →
    ∃ n, (runOps cx (callF cx (exec cx n)) ops l F S).All fun r => r.1 = none ∧ Q r.2.1 r.2.2 ∧ r.2.1.n = F.n
  | [], F, S, Q, _, h => ⟨0, ⟨rfl, h, rfl⟩, fun y hy => by cases hy⟩
  | o :: l, F, S, Q, hd, h => by
    have hd' : (dst1 F.n o && dstOk F.n l) = true := hd
    rw [Bool.and_eq_true] at hd'
    have hs : stepM cx ops o F S fun v S' => opsE cx ops l (up F o.dst v) S' Q := h
    have hun : ∀ K, runOps cx K ops (o :: l) F S = (match isDefer o with
      | none => Res.bind (one cx K ops o F S) fun r => cond r.1 (.ok (some r.2.1, F, r.2.2) []) (runOps cx K ops l (putD F o.dst r.2.1) r.2.2)
      | some c => match wanted ops F o with
        | some true => match deferV F c with
          | some d => runOps cx K ops l (putD ⟨F.t, F.n, d :: F.ds⟩ o.dst .undef) S
          | none => .err 1009
        | some false => runOps cx K ops l (putD F o.dst .undef) S
        | none => .err 1010) := fun K => rfl
    cases hdf : isDefer o with
    | some c =>
      unfold stepM at hs
      cases hw : wantS ops F o.guard with
      | none => rw [hw] at hs; exact hs.elim
      | some b =>
        rw [hw] at hs
        cases b with
        | true =>
          obtain ⟨m, hm⟩ := aop_defer (cx := cx) (F := F) (S := S) hdf
          have h1 := hs.1 rfl
          rw [hm] at h1
          exact h1.elim
        | false =>
          obtain ⟨m, h3⟩ := runOps_okE (l := l) (by rw [n_up]; exact hd'.2) (hs.2 rfl)
          refine ⟨m, ?_⟩
          rw [hun, hdf]
          simp only [wantS_eq, hw]
          rw [putD_up _ hd'.1]
          exact h3.mono fun r hr => ⟨hr.1, hr.2.1, hr.2.2.trans (n_up ..)⟩
    | none =>
      obtain ⟨n, h1⟩ := one_okE hs
      have h2 : (one cx (callF cx (exec cx n)) ops o F S).All fun r => ∃ m, (cond r.1 (.ok (some r.2.1, F, r.2.2) []) (runOps cx (callF cx (exec cx m)) ops l (putD F o.dst r.2.1) r.2.2)).All fun r => r.1 = none ∧ Q r.2.1 r.2.2 ∧ r.2.1.n = F.n := by
        refine h1.mono fun r hr => ?_
        obtain ⟨m, h3⟩ := runOps_okE (l := l) (by rw [n_up]; exact hd'.2) hr.2
        refine ⟨m, ?_⟩
        rw [hr.1, cond_false, putD_up _ hd'.1]
        exact h3.mono fun r hr => ⟨hr.1, hr.2.1, hr.2.2.trans (n_up ..)⟩
      obtain ⟨m, h3⟩ := Res.All.pick (f := fun m (r : Bool × AV × AS) => cond r.1 (.ok (some r.2.1, F, r.2.2) []) (runOps cx (callF cx (exec cx m)) ops l (putD F o.dst r.2.1) r.2.2))
        (fun a b x hab => cond_le (runOps_le (call_mono hab) ops l _ _)) h2
      refine ⟨n + m, ?_⟩
      rw [hun, hdf]
      simp only []
      refine Res.All.bind ?_
      refine ((one_le (cx := cx) (K := callF cx (exec cx n)) (K' := callF cx (exec cx (n + m))) (call_mono (Nat.le_add_right n m)) ops o F S).all h3).mono fun r hr => ?_
      exact (cond_le (runOps_le (call_mono (Nat.le_add_left m n)) ops l _ _)).all hr

/-! ### Code -/
def LoopE (cx : Cx) (b : Code) (F : Fr) (S : AS) (Q : Ex → Fr → AS → Prop) : Prop := codeOk cx F.n b = true → ∃ n, (exec cx n (.loop b) F S).All fun o => Q o.ex o.F o.S ∧ o.F.n = F.n
/-- A range over a function: the function is run with the loop's round as what it calls. -/
def RangeE (cx : Cx) (x : Operand) (ps : Array Tmp) (a b : Code) (F : Fr) (S : AS) (Q : Ex → Fr → AS → Prop) : Prop :=
  (plainC a && plainC b) = true ∧ ∃ g first captured, eval F x = .func (.func g) first captured ∧
    CallE cx g (appL first (.obj .yld (Nat.succ S.next) :: captured)) ⟨(S.h.set S.next (.oth (.dfr true))).set (Nat.succ S.next) (.oth (.loop .ready none F ps a b)), Nat.succ (Nat.succ S.next)⟩
      fun _ T => ∃ st F' ps' a' b', st ≠ .busy ∧ T.h.get (Nat.succ S.next) = some (.oth (.loop st none F' ps' a' b')) ∧ Q .normal ⟨F.t, F.n, .mark S.next :: F.ds⟩ (setO T (Nat.succ S.next) (.loop .exhausted none F' ps' a' b'))
def wpE (cx : Cx) : Code → Fr → AS → (Ex → Fr → AS → Prop) → Prop
  | .skip, F, S, Q => Q .normal F S
  | .ret, F, S, Q => Q .ret F S
  | .exit id, F, S, Q => Q (.exit id) F S
  | .region _ ops false, F, S, Q => opsE cx ops.toList ops.toList F S (Q .normal)
  | .region _ ops true, F, S, Q => drawnP cx ops.toList F S (Q .normal)
  | .seq a b, F, S, Q => wpE cx a F S (thenP (fun F' S' => wpE cx b F' S' Q) Q)
  | .cond x a b, F, S, Q => condP (eval F x) (wpE cx a F S Q) (wpE cx b F S Q)
  | .block id b, F, S, Q => wpE cx b F S (blockP id Q)
  | .loop b, F, S, Q => LoopE cx b F S Q
  | .rangeFunc x ps a b, F, S, Q => RangeE cx x ps a b F S Q
  | _, _, _, _ => False
theorem exec_le' {cx : Cx} {n m : Nat} (h : n ≤ m) {c : Code} {F : Fr} {S : AS} : Res.Le (exec cx n c F S) (exec cx m c F S) := exec_mono h c F S
theorem wpE_ok {cx : Cx} : ∀ (c : Code) {F : Fr} {S : AS} {Q : Ex → Fr → AS → Prop}, codeOk cx F.n c = true → wpE cx c F S Q → ∃ n, (exec cx n c F S).All fun o => Q o.ex o.F o.S ∧ o.F.n = F.n := by
  intro c
  induction c with
  | skip => intro F S Q _ h; exact ⟨1, ⟨h, rfl⟩, fun y hy => by cases hy⟩
  | ret => intro F S Q _ h; exact ⟨1, ⟨h, rfl⟩, fun y hy => by cases hy⟩
  | exit id => intro F S Q _ h; exact ⟨1, ⟨h, rfl⟩, fun y hy => by cases hy⟩
  | region id ops draw =>
    intro F S Q hc h
    cases draw with
    | false =>
      obtain ⟨n, h⟩ := runOps_okE hc h
      refine ⟨n + 1, ?_⟩
      show (Res.bind (runOps cx (callF cx (exec cx n)) ops.toList ops.toList F S) fun r => match r.1 with
        | none => .ok (⟨.normal, r.2.1, r.2.2⟩ : Out) []
        | some v => .ok (⟨.pan v, r.2.1, r.2.2⟩ : Out) []).All _
      exact Res.All.bind (h.mono fun r hr => by rw [hr.1]; exact ⟨hr.2, fun y hy => by cases hy⟩)
    | true =>
      obtain ⟨n, h⟩ := drawn_ok1 hc h
      refine ⟨n + 1, ?_⟩
      show (Res.bind (runDrawn cx (callF cx (exec cx n)) ops.toList F S) fun r => match r.1 with
        | none => .ok (⟨.normal, r.2.1, r.2.2⟩ : Out) []
        | some v => .ok (⟨.pan v, r.2.1, r.2.2⟩ : Out) []).All _
      exact Res.All.bind (h.all.mono fun r hr => by rw [hr.1]; exact ⟨⟨hr.2.1, hr.2.2.1⟩, fun y hy => by cases hy⟩)
  | seq a b iha ihb =>
    intro F S Q hc h
    have hc' : (codeOk cx F.n a && codeOk cx F.n b) = true := hc
    rw [Bool.and_eq_true] at hc'
    obtain ⟨n, h1⟩ := iha hc'.1 h
    have h4 : (exec cx n a F S).All fun o => ∃ m, (match o.ex with | .normal => exec cx m b o.F o.S | _ => .ok o []).All fun o => Q o.ex o.F o.S ∧ o.F.n = F.n := by
      refine h1.mono fun o ho => ?_
      obtain ⟨e, F', S'⟩ := o
      obtain ⟨h2, h3⟩ := ho
      cases e with
      | normal =>
        obtain ⟨m, h5⟩ := ihb (F := F') (by rw [h3]; exact hc'.2) h2
        exact ⟨m, h5.mono fun o ho => ⟨ho.1, ho.2.trans h3⟩⟩
      | goto l => exact ⟨0, ⟨h2, h3⟩, fun y hy => by cases hy⟩
      | pan v => exact ⟨0, ⟨h2, h3⟩, fun y hy => by cases hy⟩
      | exit id => exact ⟨0, ⟨h2, h3⟩, fun y hy => by cases hy⟩
      | ret => exact ⟨0, ⟨h2, h3⟩, fun y hy => by cases hy⟩
    have hmono : ∀ p q (o : Out), p ≤ q → Res.Le (match o.ex with | .normal => exec cx p b o.F o.S | _ => .ok o []) (match o.ex with | .normal => exec cx q b o.F o.S | _ => .ok o []) := by
      intro p q o hpq
      cases o.ex <;> first | exact exec_le' hpq | exact Res.Le.refl _
    obtain ⟨m, h5⟩ := Res.All.pick (f := fun m (o : Out) => match o.ex with | .normal => exec cx m b o.F o.S | _ => .ok o []) hmono h4
    refine ⟨n + m + 1, ?_⟩
    show (Res.bind (exec cx (n + m) a F S) fun o => match o.ex with | .normal => exec cx (n + m) b o.F o.S | _ => .ok o []).All _
    exact Res.All.bind (((exec_le' (Nat.le_add_right n m)).all h5).mono fun o ho => (hmono m (n + m) o (Nat.le_add_left ..)).all ho)
  | cond x a b iha ihb =>
    intro F S Q hc h
    have hc' : (codeOk cx F.n a && codeOk cx F.n b) = true := hc
    rw [Bool.and_eq_true] at hc'
    have h' : condP (eval F x) (wpE cx a F S Q) (wpE cx b F S Q) := h
    unfold condP at h'
    cases hx : eval F x <;> rw [hx] at h' <;> (try exact h'.elim)
    rename_i t
    cases t with
    | true =>
      obtain ⟨n, h1⟩ := iha hc'.1 (h'.1 rfl)
      refine ⟨n + 1, ?_⟩
      show (match eval F x with | .bool true => exec cx n a F S | .bool false => exec cx n b F S | _ => .err 3001).All _
      rw [hx]; exact h1
    | false =>
      obtain ⟨n, h1⟩ := ihb hc'.2 (h'.2 rfl)
      refine ⟨n + 1, ?_⟩
      show (match eval F x with | .bool true => exec cx n a F S | .bool false => exec cx n b F S | _ => .err 3001).All _
      rw [hx]; exact h1
  | block id b ihb =>
    intro F S Q hc h
    obtain ⟨n, h1⟩ := ihb hc h
    refine ⟨n + 1, ?_⟩
    show (Res.bind (exec cx n b F S) fun o => match o.ex with
      | .exit j => cond (Nat.beq j id) (.ok ⟨.normal, o.F, o.S⟩ []) (.ok o [])
      | _ => .ok o []).All _
    refine Res.All.bind (h1.mono fun o ho => ?_)
    obtain ⟨e, F', S'⟩ := o
    obtain ⟨h2, h3⟩ := ho
    cases e with
    | normal => exact ⟨⟨h2, h3⟩, fun y hy => by cases hy⟩
    | ret => exact ⟨⟨h2, h3⟩, fun y hy => by cases hy⟩
    | goto l => exact ⟨⟨h2, h3⟩, fun y hy => by cases hy⟩
    | pan v => exact ⟨⟨h2, h3⟩, fun y hy => by cases hy⟩
    | exit j =>
      have h2' : if j = id then Q .normal F' S' else Q (.exit j) F' S' := h2
      simp only [nbeq]
      by_cases hj : j = id
      · rw [if_pos hj] at h2'; rw [decide_eq_true hj]; exact ⟨⟨h2', h3⟩, fun y hy => by cases hy⟩
      · rw [if_neg hj] at h2'; rw [decide_eq_false hj]; exact ⟨⟨h2', h3⟩, fun y hy => by cases hy⟩
  | loop b _ => intro F S Q hc h; exact h hc
  | rangeFunc x ps a b _ _ =>
    intro F S Q _ h
    obtain ⟨h0, g, first, captured, hx, n, h1⟩ := h
    refine ⟨n + 1, ?_⟩
    show (rangeF cx (exec cx n) x ps a b F S).All _
    unfold rangeF
    rw [h0, cond_true, hx]
    have h1' := h1
    unfold call at h1'
    refine Res.All.bind (h1'.mono fun r hr => ?_)
    obtain ⟨hp, st, F', ps', a', b', hst, hg, hq⟩ := hr
    obtain ⟨v, T⟩ := r
    have hnp : ∀ {β : Type} {p : AV → β} {k : β}, notPan v p k = k := by
      intro β p k
      cases v <;> first | rfl | cases hp
    unfold rangeEnd
    rw [hnp]
    simp only [] at hg hq ⊢
    rw [hg]
    cases st with
    | busy => exact absurd rfl hst
    | ready => exact ⟨⟨hq, rfl⟩, fun y hy => by cases hy⟩
    | done => exact ⟨⟨hq, rfl⟩, fun y hy => by cases hy⟩
    | exhausted => exact ⟨⟨hq, rfl⟩, fun y hy => by cases hy⟩
  | scope b ihb => intro F S Q _ h; exact h.elim
  | label l => intro F S Q _ h; exact h.elim
  | goto l => intro F S Q _ h; exact h.elim
  | refuse s => intro F S Q _ h; exact h.elim

/-! ### Rounds, loops, functions -/
/-- A round of a loop that is ready. -/
theorem roundE_of {cx : Cx} {id : Nat} {as : List AV} {S : AS} {K : AV → AS → Prop} {j : Option Code} {F F1 : Fr} {ps : Array Tmp} {a b : Code} (hg : S.h.get id = some (.oth (.loop .ready j F ps a b))) (hp : putL ⟨F.t, F.n, []⟩ ps.toList as = some F1)
    (ha : codeOk cx F1.n a = true) (hb : codeOk cx F1.n b = true)
    (h : wpE cx a F1 S fun e F2 S2 => e = .normal ∧ ∃ j' F' a' b', S2.h.get id = some (.oth (.loop .ready j' F' ps a' b')) ∧
      wpE cx b F2 (setO S2 id (.loop .busy j' F' ps a' b')) fun e2 F3 S3 => e2 = .normal ∧ ∃ st j3 F4 ps3 a3 b3, S3.h.get id = some (.oth (.loop st j3 F4 ps3 a3 b3)) ∧ K (.bool true) (setO S3 id (.loop .ready none F4 ps3 a3 b3))) : RoundE cx id as S K := by
  obtain ⟨n, h1⟩ := wpE_ok a ha h
  have h2 : (exec cx n a F1 S).All fun o => ∃ m, (match o.ex with
      | .normal => match o.S.h.get id with
        | some (.oth (.loop .ready j F ps a' b')) => Res.bind (exec cx m b o.F (setO o.S id (.loop .busy j F ps a' b'))) fun o2 => roundEnd id o2.ex o2.S
        | _ => .err 2102
      | _ => .err 2103 : Res (AV × AS)).All fun r => isPanB r.1 = false ∧ K r.1 r.2 := by
    refine h1.mono fun o ho => ?_
    obtain ⟨e, F2, S2⟩ := o
    obtain ⟨⟨he, j', F', a', b', hg2, h3⟩, hn⟩ := ho
    simp only [] at he hg2 h3 hn ⊢
    subst he
    obtain ⟨m, h4⟩ := wpE_ok b (F := F2) (by rw [hn]; exact hb) h3
    refine ⟨m, ?_⟩
    simp only [hg2]
    refine Res.All.bind (h4.mono fun o2 ho2 => ?_)
    obtain ⟨e2, F3, S3⟩ := o2
    obtain ⟨⟨he2, st, j3, F4, ps3, a3, b3, hg3, hk⟩, _⟩ := ho2
    simp only [] at he2 hg3 hk ⊢
    subst he2
    unfold roundEnd
    rw [hg3]
    exact ⟨⟨rfl, hk⟩, fun y hy => by cases hy⟩
  have hmono : ∀ p q (o : Out), p ≤ q → Res.Le (match o.ex with
      | .normal => match o.S.h.get id with
        | some (.oth (.loop .ready j F ps a' b')) => Res.bind (exec cx p b o.F (setO o.S id (.loop .busy j F ps a' b'))) fun o2 => roundEnd id o2.ex o2.S
        | _ => .err 2102
      | _ => .err 2103 : Res (AV × AS)) (match o.ex with
      | .normal => match o.S.h.get id with
        | some (.oth (.loop .ready j F ps a' b')) => Res.bind (exec cx q b o.F (setO o.S id (.loop .busy j F ps a' b'))) fun o2 => roundEnd id o2.ex o2.S
        | _ => .err 2102
      | _ => .err 2103 : Res (AV × AS)) := by
    intro p q o hpq
    split
    · split
      · exact Res.Le.bind (exec_le' hpq) fun _ => Res.Le.refl _
      · exact Res.Le.refl _
    · exact Res.Le.refl _
  obtain ⟨m, h5⟩ := Res.All.pick hmono h2
  refine ⟨n + m, ?_⟩
  unfold roundF
  rw [hg]
  simp only [hp]
  exact Res.All.bind (((exec_le' (Nat.le_add_right n m)).all h5).mono fun o ho => (hmono m (n + m) o (Nat.le_add_left ..)).all ho)
/-- A loop, by what holds at each round's head and a number that goes down. -/
theorem loopE_of {cx : Cx} {b : Code} {F : Fr} {S : AS} {Q : Ex → Fr → AS → Prop} (I : Nat → Fr → AS → Prop) (k : Nat) (h0 : I k F S)
    (h : ∀ (k : Nat) (F' : Fr) (S' : AS), F'.n = F.n → I k F' S' → wpE cx b F' S' (thenP (fun F2 S2 => ∃ j, j < k ∧ I j F2 S2) Q)) : LoopE cx b F S Q := by
  intro hc
  have main : ∀ (k : Nat) (F' : Fr) (S' : AS), I k F' S' → F'.n = F.n → ∃ n, (exec cx n (.loop b) F' S').All fun o => Q o.ex o.F o.S ∧ o.F.n = F.n := by
    intro k
    induction k using Nat.strongRecOn with
    | ind k ih =>
      intro F' S' hI hn
      obtain ⟨n, h1⟩ := wpE_ok b (by rw [hn]; exact hc) (h k F' S' hn hI)
      have h4 : (exec cx n b F' S').All fun o => ∃ m, (match o.ex with | .normal => exec cx m (.loop b) o.F o.S | _ => .ok o []).All fun o => Q o.ex o.F o.S ∧ o.F.n = F.n := by
        refine h1.mono fun o ho => ?_
        obtain ⟨e, F2, S2⟩ := o
        obtain ⟨h2, h3⟩ := ho
        cases e with
        | normal => obtain ⟨j, hj, hI2⟩ := h2; exact ih j hj F2 S2 hI2 (h3.trans hn)
        | exit id => exact ⟨0, ⟨h2, h3.trans hn⟩, fun y hy => by cases hy⟩
        | ret => exact ⟨0, ⟨h2, h3.trans hn⟩, fun y hy => by cases hy⟩
        | goto l => exact ⟨0, ⟨h2, h3.trans hn⟩, fun y hy => by cases hy⟩
        | pan v => exact ⟨0, ⟨h2, h3.trans hn⟩, fun y hy => by cases hy⟩
      have hmono : ∀ p q (o : Out), p ≤ q → Res.Le (match o.ex with | .normal => exec cx p (.loop b) o.F o.S | _ => .ok o []) (match o.ex with | .normal => exec cx q (.loop b) o.F o.S | _ => .ok o []) := by
        intro p q o hpq
        cases o.ex <;> first | exact exec_le' hpq | exact Res.Le.refl _
      obtain ⟨m, h5⟩ := Res.All.pick (f := fun m (o : Out) => match o.ex with | .normal => exec cx m (.loop b) o.F o.S | _ => .ok o []) hmono h4
      refine ⟨n + m + 1, ?_⟩
      show (Res.bind (exec cx (n + m) b F' S') fun o => match o.ex with | .normal => exec cx (n + m) (.loop b) o.F o.S | _ => .ok o []).All _
      exact Res.All.bind (((exec_le' (Nat.le_add_right n m)).all h5).mono fun o ho => (hmono m (n + m) o (Nat.le_add_left ..)).all ho)
  exact main k F S h0 rfl
/-- A function's end: the marks of its ranges over functions are let go. -/
def leaveE (cx : Cx) (fn : Func) (F : Fr) (Q : AV → AS → Prop) : List ADef → AS → Prop
  | [], S => endP (resL cx F S fn.results.toList |>.map fun vs => match vs with | [v] => v | vs => .tuple vs) S Q
  | .mark id :: ds, S => S.h.get id = some (.oth (.dfr true)) ∧ leaveE cx fn F Q ds (setO S id (.dfr false))
  | _, _ => False
def bodyE (cx : Cx) (fn : Func) (Q : AV → AS → Prop) : Ex → Fr → AS → Prop
  | .exit _, _, _ => False
  | .goto _, _, _ => False
  | .pan _, _, _ => False
  | _, F, S => leaveE cx fn F Q F.ds S
theorem leaveE_ok {cx : Cx} {fn : Func} {F : Fr} {Q : AV → AS → Prop} {ih : Code → Fr → AS → Res Out} : ∀ {ds : List ADef} {S : AS}, leaveE cx fn F Q ds S → (leaveL cx ih fn F ds .ret S).All fun r => isPanB r.1 = false ∧ Q r.1 r.2
  | [], S, h => by
    show (match resultsV cx fn F S with | some v => (.ok (v, S) [] : Res (AV × AS)) | none => .err 2001).All _
    have h' : endP (resultsV cx fn F S) S Q := by rw [resultsV_map]; exact h
    cases hv : resultsV cx fn F S with
    | none => rw [hv] at h'; exact h'.elim
    | some v => rw [hv] at h'; exact ⟨h', fun y hy => by cases hy⟩
  | .mark id :: ds, S, h => by
    have e : leaveL cx ih fn F (.mark id :: ds) .ret S = (match S.h.get id with
        | some (.oth (.dfr true)) => leaveL cx ih fn F ds .ret (setO S id (.dfr false))
        | _ => .err 2011) := rfl
    rw [e, h.1]
    exact leaveE_ok h.2
  | .call f as cs :: ds, S, h => h.elim
/-- A call that is entered: the frame is known by its slots. -/
theorem enterE {cx : Cx} {f : FuncId} {fn : Func} {c : Code} {as : List AV} {S : AS} {Q : AV → AS → Prop} (hu : cx.pures.get f = none) (hp : cx.prims.get f = none) (hf : cx.fns.get f = some fn) (hb : fn.body = some c) (hc : codeOk cx fn.ntmps c = true) (hn : as.length ≤ fn.ntmps)
    (h : ∀ F : Fr, F.n = fn.ntmps → F.ds = [] → (∀ t, sl F t = (as[t]?).getD .undef) → wpE cx c F S (bodyE cx fn Q)) : CallE cx f as S Q := by
  have hn' : (initF as fn.ntmps).n = fn.ntmps := by rw [n_initF]; omega
  obtain ⟨n, h1⟩ := wpE_ok c (F := initF as fn.ntmps) (by rw [hn']; exact hc) (h _ hn' rfl (sl_initF as _))
  refine ⟨n, ?_⟩
  unfold call callF pureF fnF
  simp only [hu, hp, hf, hb]
  refine Res.All.bind (h1.mono fun o ho => ?_)
  obtain ⟨e, F', S'⟩ := o
  obtain ⟨h2, _⟩ := ho
  cases e with
  | normal => exact leaveE_ok h2
  | ret => exact leaveE_ok h2
  | exit id => exact h2.elim
  | goto l => exact h2.elim
  | pan v => exact h2.elim

/-! ### What is known between two pieces of code -/
theorem runE_mono {cx : Cx} {r : AR} {K K' : AV → AS → Prop} (h : runE cx r K) (k : ∀ v S', K v S' → K' v S') : runE cx r K' := by
  unfold runE at h ⊢
  cases r with
  | val v S' => exact k _ _ h
  | enter f as S' => exact CallE.mono h k
  | err n => exact h
  | round f as S' => exact RoundE.mono h k
  | pan v S' => exact h
  | many l => exact ⟨h.1, fun y hy => k _ _ (h.2 y hy)⟩
theorem stepM_mono {cx : Cx} {ops : List Oper} {o : Oper} {F : Fr} {S : AS} {K K' : AV → AS → Prop} (h : stepM cx ops o F S K) (k : ∀ v S', K v S' → K' v S') : stepM cx ops o F S K' := by
  unfold stepM at h ⊢
  cases hw : wantS ops F o.guard with
  | none => rw [hw] at h; exact h
  | some b => rw [hw] at h; exact ⟨fun hb => runE_mono (h.1 hb) k, fun hb => k _ _ (h.2 hb)⟩
theorem opsE_mono {cx : Cx} {ops : List Oper} {Q Q' : Fr → AS → Prop} : ∀ {l : List Oper} {F : Fr} {S : AS}, opsE cx ops l F S Q → (∀ F' S', Q F' S' → Q' F' S') → opsE cx ops l F S Q'
  | [], _, _, h, k => k _ _ h
  | _ :: _, _, _, h, k => stepM_mono h fun _ _ h' => opsE_mono h' k
theorem LoopE_mono {cx : Cx} {b : Code} {F : Fr} {S : AS} {Q Q' : Ex → Fr → AS → Prop} (h : LoopE cx b F S Q) (hq : ∀ e F S, Q e F S → Q' e F S) : LoopE cx b F S Q' := fun hc => by
  obtain ⟨n, h2⟩ := h hc
  exact ⟨n, h2.mono fun o ho => ⟨hq _ _ _ ho.1, ho.2⟩⟩
theorem wpE_mono {cx : Cx} : ∀ (c : Code) {F : Fr} {S : AS} {Q Q' : Ex → Fr → AS → Prop}, wpE cx c F S Q → (∀ e F S, Q e F S → Q' e F S) → wpE cx c F S Q' := by
  intro c
  induction c with
  | skip => intro F S Q Q' h k; exact k _ _ _ h
  | region id ops d =>
    intro F S Q Q' h k
    cases d with
    | false => exact opsE_mono (show opsE cx ops.toList ops.toList F S (Q .normal) from h) fun F S h => k _ _ _ h
    | true => exact drawnP_mono _ (show drawnP cx ops.toList F S (Q .normal) from h) fun F S h => k _ _ _ h
  | seq a b iha ihb =>
    intro F S Q Q' h k
    exact iha (show wpE cx a F S (thenP (fun F' S' => wpE cx b F' S' Q) Q) from h) (thenP_mono (fun F S h => ihb h k) k)
  | cond x a b iha ihb =>
    intro F S Q Q' h k
    exact condP_mono (show condP (eval F x) (wpE cx a F S Q) (wpE cx b F S Q) from h) (fun h => iha h k) (fun h => ihb h k)
  | block id b ih =>
    intro F S Q Q' h k
    exact ih (show wpE cx b F S (blockP id Q) from h) (blockP_mono k)
  | loop b _ =>
    intro F S Q Q' h k
    exact LoopE_mono (show LoopE cx b F S Q from h) k
  | rangeFunc x p a b _ _ =>
    intro F S Q Q' h k
    obtain ⟨h0, g, first, captured, hx, h1⟩ := (show RangeE cx x p a b F S Q from h)
    exact ⟨h0, g, first, captured, hx, CallE.mono h1 fun _ T ⟨st, F', ps', a', b', q1, q2, q3⟩ => ⟨st, F', ps', a', b', q1, q2, k _ _ _ q3⟩⟩
  | exit id => intro F S Q Q' h k; exact k _ _ _ h
  | scope b ih => intro F S Q Q' h k; exact (show False from h).elim
  | label l => intro F S Q Q' h k; exact (show False from h).elim
  | goto l => intro F S Q Q' h k; exact (show False from h).elim
  | ret => intro F S Q Q' h k; exact k _ _ _ h
  | refuse w => intro F S Q Q' h k; exact (show False from h).elim
theorem cut_ofE {cx : Cx} {c : Code} {F : Fr} {S : AS} {R : Fr → AS → Prop} {Q : Ex → Fr → AS → Prop} (Mid : Fr → AS → Prop) (h1 : wpE cx c F S (thenP Mid Q)) (h2 : ∀ F' S', Mid F' S' → R F' S') : wpE cx c F S (thenP R Q) :=
  wpE_mono c h1 (thenP_mono h2 fun _ _ _ h => h)

/-! ### Rules for simp -/
section
variable {cx : Cx} {ops l : List Oper} {o : Oper} {F : Fr} {S : AS} {K : AV → AS → Prop} {Q : Ex → Fr → AS → Prop} {R : Fr → AS → Prop}
theorem opsE_nil : opsE cx ops [] F S R = R F S := rfl
def kontE (cx : Cx) (ops l : List Oper) (F : Fr) (d : Option Nat) (R : Fr → AS → Prop) (v : AV) (S' : AS) : Prop := opsE cx ops l (up F d v) S' R
theorem kontE_app {d : Option Nat} {v : AV} {S' : AS} : kontE cx ops l F d R v S' = opsE cx ops l (up F d v) S' R := rfl
theorem opsE_cons : opsE cx ops (o :: l) F S R = stepM cx ops o F S (kontE cx ops l F o.dst R) := rfl
theorem stepM_free {dst : Option Tmp} {op : Op} {ty : TypeId} {pos : String} {af : Array Edge} : stepM cx ops ⟨dst, op, ty, pos, af, none⟩ F S K = runE cx (aop cx F S ⟨dst, op, ty, pos, af, none⟩) K := by
  simp [stepM, wantS]
theorem stepM_run {dst : Option Tmp} {op : Op} {ty : TypeId} {pos : String} {af : Array Edge} {j d : Nat} {w b : Bool} (h1 : slotAt ops j = some d) (h2 : sl F d = .bool b) (h3 : (b == w) = true) :
    stepM cx ops ⟨dst, op, ty, pos, af, some (j, w)⟩ F S K = runE cx (aop cx F S ⟨dst, op, ty, pos, af, some (j, w)⟩) K := by
  have : w = b := by cases b <;> cases w <;> first | rfl | cases h3
  subst this
  simp only [stepM, wantS_slot h1 h2]
  cases w <;> simp
theorem stepM_skip {dst : Option Tmp} {op : Op} {ty : TypeId} {pos : String} {af : Array Edge} {j d : Nat} {w b : Bool} (h1 : slotAt ops j = some d) (h2 : sl F d = .bool b) (h3 : (b == !w) = true) :
    stepM cx ops ⟨dst, op, ty, pos, af, some (j, w)⟩ F S K = K .undef S := by
  have : w = !b := by cases b <;> cases w <;> first | rfl | cases h3
  subst this
  simp only [stepM, wantS_slot h1 h2]
  cases b <;> simp
theorem runE_val {v : AV} {S' : AS} : runE cx (.val v S') K = K v S' := rfl
theorem runE_enter {f : FuncId} {as : List AV} {S' : AS} : runE cx (.enter f as S') K = CallE cx f as S' K := rfl
theorem runE_round {id : Nat} {as : List AV} {S' : AS} : runE cx (.round id as S') K = RoundE cx id as S' K := rfl
theorem runE_many {l : List (AV × AS)} : runE cx (.many l) K = (l ≠ [] ∧ ∀ y, y ∈ l → K y.1 y.2) := rfl
theorem wpE_skip : wpE cx .skip F S Q = Q .normal F S := rfl
theorem wpE_ret : wpE cx .ret F S Q = Q .ret F S := rfl
theorem wpE_exit {id : Nat} : wpE cx (.exit id) F S Q = Q (.exit id) F S := rfl
theorem wpE_region {id : Nat} {l : List Oper} : wpE cx (.region id l.toArray false) F S Q = opsE cx l l F S (Q .normal) := rfl
theorem wpE_drawn {id : Nat} {l : List Oper} : wpE cx (.region id l.toArray true) F S Q = drawnP cx l F S (Q .normal) := rfl
/-- A loop with one outcome. -/
theorem LoopP.each {b : Code} (h : LoopP cx b F S Q) : LoopE cx b F S Q := fun hc => by
  obtain ⟨n, h⟩ := h hc
  exact ⟨n, h.all.mono fun o ho => ⟨ho.1, ho.2.1⟩⟩
def kcodeE (cx : Cx) (b : Code) (Q : Ex → Fr → AS → Prop) (F' : Fr) (S' : AS) : Prop := wpE cx b F' S' Q
theorem kcodeE_app {b : Code} {F' : Fr} {S' : AS} : kcodeE cx b Q F' S' = wpE cx b F' S' Q := rfl
theorem wpE_seq {a b : Code} : wpE cx (.seq a b) F S Q = wpE cx a F S (thenP (kcodeE cx b Q) Q) := rfl
theorem wpE_cond {x : Operand} {a b : Code} : wpE cx (.cond x a b) F S Q = condP (eval F x) (wpE cx a F S Q) (wpE cx b F S Q) := rfl
theorem wpE_block {id : Nat} {b : Code} : wpE cx (.block id b) F S Q = wpE cx b F S (blockP id Q) := rfl
theorem wpE_loop {b : Code} : wpE cx (.loop b) F S Q = LoopE cx b F S Q := rfl
theorem wpE_range {x : Operand} {ps : Array Tmp} {a b : Code} : wpE cx (.rangeFunc x ps a b) F S Q = RangeE cx x ps a b F S Q := rfl
end
attribute [simp] kontE_app opsE_nil opsE_cons stepM_free stepM_run stepM_skip wpE_drawn runE_val runE_enter runE_round wpE_skip wpE_ret wpE_exit wpE_region kcodeE_app wpE_seq wpE_cond wpE_block wpE_loop wpE_range
end Go.Am
