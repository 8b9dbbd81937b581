/-
  The abstract machine against the model: operations in a row.
  The abstract machine against the model: code, calls.
-/
import Derived.Test.YtpgmahedcpepkaaGreatDoorAmSound
import Derived.LoopN
import Derived.OrdersIn
import Derived.RangeFuncIn
import Derived.RangeFuncRecord
import Derived.LoopNIn
import Derived.RecoverIn
import Derived.RangeFuncLeaves
namespace Go.Am
open Go
variable {Λ : LB}

def Res.All {α : Type} (r : Res α) (p : α → Prop) : Prop :=
  match r with
  | .err _ => False
  | .ok x xs => p x ∧ ∀ y, y ∈ xs → p y
theorem Res.All.mono {α : Type} {r : Res α} {p q : α → Prop} (h : r.All p) (hq : ∀ x, p x → q x) : r.All q := by
  cases r with
  | err n => exact h
  | ok x xs => exact ⟨hq x h.1, fun y hy => hq y (h.2 y hy)⟩
theorem Res.all_app {α : Type} {a b : Res α} {p : α → Prop} (h : (Res.app a b).All p) : a.All p ∧ b.All p := by
  cases a with
  | err n => exact h.elim
  | ok x xs =>
    cases b with
    | err n => exact h.elim
    | ok y ys =>
      obtain ⟨h1, h2⟩ := h
      simp only [appL_eq] at h2
      exact ⟨⟨h1, fun z hz => h2 z (List.mem_append_left _ hz)⟩, ⟨h2 y (by simp), fun z hz => h2 z (by simp [hz])⟩⟩
theorem Res.all_bind {α β : Type} {r : Res α} {f : α → Res β} {p : β → Prop} (h : (Res.bind r f).All p) : r.All fun x => (f x).All p := by
  cases r with
  | err n => exact h.elim
  | ok x xs =>
    cases xs with
    | nil => exact ⟨h, fun y hy => by cases hy⟩
    | cons y ys =>
      have h' : (Res.app (f x) (List.rec (motive := fun _ => α → Res β) (fun y => f y) (fun z _ ih y => Res.app (f y) (ih z)) ys y)).All p := h
      obtain ⟨h1, h2⟩ := Res.all_app h'
      refine ⟨h1, ?_⟩
      clear h h' h1
      induction ys generalizing y with
      | nil =>
        intro z hz
        simp at hz
        subst hz
        exact h2
      | cons z ys ih =>
        have h3 : (Res.app (f y) (List.rec (motive := fun _ => α → Res β) (fun y => f y) (fun z _ ih y => Res.app (f y) (ih z)) ys z)).All p := h2
        obtain ⟨h4, h5⟩ := Res.all_app h3
        intro u hu
        cases hu with
        | head => exact h4
        | tail _ hu => exact ih z h5 u hu

/-- The fence that asks nothing, of a function's frame or of a round's. -/
def GF (ro : Option Nat) : Fence := match ro with | none => Fence.wide | some l => Fence.wide.inRound l
theorem GF_fn (ro : Option Nat) (f : FuncId) : (GF ro).fn f := by cases ro <;> trivial
theorem GF_room (ro : Option Nat) (n : Nat) : (GF ro).room n := by cases ro <;> exact room_wide n
theorem GF_round (ro : Option Nat) : (GF ro).round = ro := by cases ro <;> rfl
theorem GF_depth (ro : Option Nat) {p : Prop} (h : (GF ro).depth.isSome = true) : p := by cases ro <;> simp [GF, Fence.wide] at h
theorem callsIn_GF {ro : Option Nat} {n : Nat} {P : Program} {f : FuncId} {args : Array Value} {w : World} {R : Ending → World → Prop} (h : Calls P f args w R) : CallsIn (GF ro) n P f args w R := by
  have h' := callsIn_wide (n := n).2 h
  cases ro with
  | none => exact h'
  | some l => exact h'
theorem roundIn_GF {ro : Option Nat} {n : Nat} {P : Program} {l : Nat} {f : FuncId} {tmps : Array Value} {x y : Code} {w : World} {R : Ending → World → Prop} (h : RoundIn Fence.wide n P l f tmps x y w R) : RoundIn (GF ro) n P l f tmps x y w R := by
  cases ro with
  | none => exact h
  | some l => exact h

/-- How a call ends, and what the machine says. -/
def RetOk (ρ : Rho) (v : AV) (e : Ending) : Prop :=
  match v with
  | .pan u => ∃ x, e = .panicked [{ v := x, recovered := false }] ∧ VRel ρ u x
  | v => ∃ x, e = .returned x ∧ VRel ρ v x
theorem RetOk.of {ρ : Rho} {v : AV} {x : Value} (h : VRel ρ v x) : RetOk ρ v (.returned x) := by
  cases v <;> first | exact ⟨x, rfl, h⟩ | (simp only [VRel] at h)
theorem RetOk.cases {ρ : Rho} {v : AV} {e : Ending} (h : RetOk ρ v e) : ((∀ u, v ≠ .pan u) ∧ ∃ x, e = .returned x ∧ VRel ρ v x) ∨ ∃ u x, v = .pan u ∧ e = .panicked [{ v := x, recovered := false }] ∧ VRel ρ u x := by
  cases v
  case pan u => obtain ⟨x, e1, e2⟩ := h; exact .inr ⟨u, x, rfl, e1, e2⟩
  all_goals exact .inl ⟨(by intro u e; cases e), h⟩
theorem notPan_pan {β : Type} {u : AV} {p : AV → β} {k : β} : notPan (.pan u) p k = p u := rfl
theorem notPan_not {β : Type} {v : AV} {p : AV → β} {k : β} (h : ∀ u, v ≠ .pan u) : notPan v p k = k := by
  cases v <;> first | rfl | exact absurd rfl (h _)

/-- How an operation ends. -/
def RetF (ρ : Rho) (b : Bool) (v : AV) (e : Ending) : Prop := ∃ x, VRel ρ v x ∧ e = cond b (.panicked [{ v := x, recovered := false }]) (.returned x)
theorem RetF.val {ρ : Rho} {v : AV} {e : Ending} (h : RetF ρ false v e) : ∃ x, e = .returned x ∧ VRel ρ v x := let ⟨x, a, b⟩ := h; ⟨x, b, a⟩
theorem RetF.pan {ρ : Rho} {v : AV} {e : Ending} (h : RetF ρ true v e) : ∃ x, e = .panicked [{ v := x, recovered := false }] ∧ VRel ρ v x := let ⟨x, a, b⟩ := h; ⟨x, b, a⟩
theorem RetF.of {ρ : Rho} {v : AV} {x : Value} (h : VRel ρ v x) : RetF ρ false v (.returned x) := ⟨x, h, rfl⟩
theorem RetF.ofPan {ρ : Rho} {v : AV} {x : Value} (h : VRel ρ v x) : RetF ρ true v (.panicked [{ v := x, recovered := false }]) := ⟨x, h, rfl⟩
/-- From a call to the operation. -/
theorem retR_all {Λ : LB} {ρ : Rho} {S : AS} {w : World} {Post : Ending → World → Prop} {r : Res (AV × AS)} (h : (Res.bind r retR).All fun r => ∀ ρ' e w', RetF ρ' r.1 r.2.1 e → R Λ ρ' r.2.2 w' → Kp ρ S w ρ' r.2.2 w' → Post e w') :
    r.All fun r => ∀ ρ' e w', RetOk ρ' r.1 e → R Λ ρ' r.2 w' → Kp ρ S w ρ' r.2 w' → Post e w' := by
  refine (Res.all_bind h).mono fun q hq ρ' e w' h0 h1 h2 => ?_
  unfold retR at hq
  rcases h0.cases with ⟨hnp, x, rfl, hx⟩ | ⟨u, x, hu, rfl, hx⟩
  · rw [notPan_not hnp] at hq
    exact hq.1 ρ' _ w' (RetF.of hx) h1 h2
  · rw [hu, notPan_pan] at hq
    exact hq.1 ρ' _ w' (RetF.ofPan hx) h1 h2
/-- What a target must bear. -/
def TgtOk (P : Program) (ρ : Rho) (args : Array Value) (w : World) (Post : Ending → World → Prop) : Tgt → Prop
  | .fn f => (∃ fn, P.funcs[f]? = some fn ∧ fn.body.isSome = true) ∧ Calls P f args w Post
  | .round id => ∀ pl, ρ id 0 = some pl → ∃ fn tmps x y, (Instr.yield pl.b args).run P w = .ok (.round pl.b fn tmps x y) w ∧ RoundIn Fence.wide 0 P pl.b fn tmps x y w Post
/-- What a call must bear. -/
def KSound (Λ : LB) (P : Program) (K : CallK) : Prop :=
  ∀ (ρ : Rho) (t : Tgt) (as : List AV) (S : AS) (w : World) (args : Array Value) (Post : Ending → World → Prop),
    (K t as S).All (fun r => ∀ ρ' e w', RetOk ρ' r.1 e → R Λ ρ' r.2 w' → Kp ρ S w ρ' r.2 w' → Post e w') → R Λ ρ S w → LRel ρ as args.toList → TgtOk P ρ args w Post t

/-- What is asked of an operation's end. -/
def EndP (next : Act → World → Prop) (Q : Exit → Act → World → Prop) (a : Act) (dst : Option Tmp) : Ending → World → Prop
  | .returned x, w => next (a.put dst x) w
  | .panicked ch, w => Q (.panic ch) a w
  | .outgrown, _ => False

theorem getD_bool {a : Act} {d : Nat} {b : Bool} (h : a.tmps.getD d undef = .bool b) : a.tmps[d]? = some (.bool b) := by
  rw [Array.getD_eq_getD_getElem?] at h
  cases hd : a.tmps[d]? with
  | none => rw [hd] at h; cases h
  | some x => rw [hd] at h; simp at h; rw [h]

theorem wanted_ok {ρ : Rho} {F : Fr} {a : Act} (hF : FRel ρ F a) {ops : Array Oper} {o : Oper} {b : Bool} (h : wanted ops.toList F o = some b) :
    Region.wanted o (yielded ops a.tmps) = b := by
  unfold wanted at h
  unfold Region.wanted
  cases hg : o.guard with
  | none => simp only [hg, Option.some.injEq] at h; simpa [hg] using h
  | some jw =>
    obtain ⟨j, want⟩ := jw
    simp only [hg] at h ⊢
    rw [nth_eq] at h
    unfold yielded
    rw [Array.getElem?_toList] at h
    cases hj : ops[j]? with
    | none => simp only [hj, Option.some.injEq] at h; subst h; rfl
    | some p =>
      simp only [hj] at h
      cases hd : p.dst with
      | none => simp only [hd, Option.some.injEq] at h; subst h; simp [hd]
      | some d =>
        simp only [hd] at h
        have hs := hF.slot d
        simp only [Option.bind_some, hd]
        cases hv : F.t.get d with
        | none =>
          rw [hv] at hs h
          simp only [Option.some.injEq] at h
          subst h
          simp only [AV.undef, VRel] at hs
          obtain ⟨x, hx, _⟩ := hs
          cases hm : a.tmps[d]? with
          | none => rfl
          | some y =>
            rw [Array.getD_eq_getD_getElem?, hm] at hx
            simp at hx
            subst hx; rfl
        | some v =>
          rw [hv] at hs h
          simp only [] at hs
          have hne : (∀ c, a.tmps.getD d undef ≠ Value.bool c) → ∀ c, a.tmps[d]? ≠ some (.bool c) := by
            intro hne c hc
            exact absurd (by rw [Array.getD_eq_getD_getElem?, hc]; rfl) (hne c)
          cases v <;> simp only [Option.some.injEq, reduceCtorEq] at h <;> (try simp only [VRel] at hs)
          case bool c =>
            rw [getD_bool hs]
            subst h
            cases want <;> cases c <;> rfl
          all_goals
            subst h
            have hn2 : ∀ c, a.tmps[d]? ≠ some (.bool c) := by
              refine hne fun c hc => ?_
              rw [hc] at hs
              first
                | (cases hs; done)
                | (obtain ⟨_, hh, _⟩ := hs; cases hh; done)
                | (rename_i k _; obtain ⟨_, _, hh⟩ := hs; cases k <;> cases hh; done)
                | (obtain ⟨_, _, hh⟩ := hs; cases hh; done)
                | (obtain ⟨_, _, _, hh⟩ := hs; cases hh; done)
                | (obtain ⟨_, _, hh, _⟩ := hs; cases hh; done)
                | (obtain ⟨_, _, _, _, _, _, _, hh⟩ := hs; rcases hh with ⟨hh, _⟩ | ⟨_, _, _, _, hh⟩ <;> cases hh)
            cases hm : a.tmps[d]? with
            | none => rfl
            | some y => cases y with
              | bool c => exact absurd hm (hn2 c)
              | _ => rfl

/-- One operation's step. -/
theorem one_wp {P : Program} {cx : Cx} {ro : Option Nat} (hcx : CxOk Λ P cx) {K : CallK} (hK : KSound Λ P K) {ρ : Rho} {F : Fr} {S : AS} {w : World} {a : Act} (hR : R Λ ρ S w) (hF : FRel ρ F a)
    {ops : Array Oper} {i : Nat} {o : Oper} (hi : ops[i]? = some o) {next : Act → World → Prop} {Q : Exit → Act → World → Prop}
    (h : (one cx K ops.toList o F S).All fun r => ∀ ρ' e w', RetF ρ' r.1 r.2.1 e → R Λ ρ' r.2.2 w' → Kp ρ S w ρ' r.2.2 w' → EndP next Q a o.dst e w') :
    wpOpIn (GF ro) 0 P ops Q i next a w := by
  unfold wpOpIn
  simp only [hi]
  unfold one at h
  cases hw : wanted ops.toList F o with
  | none => rw [hw] at h; exact h.elim
  | some b =>
    rw [hw] at h
    rw [wanted_ok hF hw]
    have ha : ∀ f, o.about P w a.eval = some f → (GF ro).fn f := fun f _ => GF_fn ro f
    cases b with
    | false =>
      simp only [Bool.false_eq_true, if_false]
      exact ⟨ha, h.1 ρ _ w (RetF.of (undef_rel ρ)) hR (Kp.refl _ _ _)⟩
    | true =>
      simp only [if_true]
      refine ⟨ha, ?_⟩
      simp only [] at h
      have hnd : ∀ c, o.op ≠ .defer c := by
        intro c e
        have hop : aop cx F S o = .err 99 := by simp only [aop, e]
        rw [hop] at h
        exact h
      rw [Oper.semAt_eq _ _ _ hnd]
      have val : ∀ (v : AV) (S' : AS), OpOk Λ P ρ S w (execOp a.eval o) v S' → (∀ ρ' e w', RetF ρ' false v e → R Λ ρ' S' w' → Kp ρ S w ρ' S' w' → EndP next Q a o.dst e w') →
          o.uponIn (GF ro) 0 P a next Q ((execOp a.eval o).run P w) := by
        rintro v S' ⟨nx, x, ρ', w', r1, r2, r3, r4, r5⟩ h1
        have hn := h1 ρ' (.returned x) w' (RetF.of r3) r4 r5
        rw [r1]
        cases nx <;> simp only [nextVal, Option.some.injEq, reduceCtorEq] at r2
        · subst r2; exact hn
        · subst r2; exact hn
      cases hop : aop cx F S o with
      | err n => rw [hop] at h; exact h.elim
      | val v S' =>
        rw [hop] at h
        exact val v S' (aop_sound hcx hR hF hop) h.1
      | enter f as S' =>
        rw [hop] at h
        obtain ⟨rfl, args, e1, e2⟩ := aop_enter (P := P) hF hop
        obtain ⟨⟨fn, hfn, hbody⟩, hcalls⟩ := hK ρ (.fn f) as S' w args _ (retR_all h) hR e2
        rw [e1, hcx.enters f fn hfn hbody args w]
        refine ⟨fun hd => GF_depth ro hd, callsIn_GF (hcalls.mono fun e w' he => ?_)⟩
        cases e with
        | returned x => exact he
        | panicked ch => exact he
        | outgrown => exact (he : False).elim
      | round id as S' =>
        rw [hop] at h
        obtain ⟨rfl, pl, args, p1, e1, e2⟩ := aop_round (P := P) hF hop
        obtain ⟨fn, tmps, x, y, r1, r2⟩ := hK ρ (.round id) as S' w args _ (retR_all h) hR e2 pl p1
        rw [e1, r1]
        refine ⟨fun hd => GF_depth ro hd, roundIn_GF (r2.mono fun e w' he => ?_)⟩
        cases e with
        | returned x => exact he
        | panicked ch => exact he
        | outgrown => exact (he : False).elim
      | pan v S' =>
        rw [hop] at h
        obtain ⟨rfl, _, x, r1, r2⟩ := aop_pan (P := P) (w := w) hF hop
        rw [r1]
        exact h.1 ρ (.panicked [{ v := x, recovered := false }]) w (RetF.ofPan r2) hR (Kp.refl _ _ _)
      | many l =>
        rw [hop] at h
        cases l with
        | nil => exact h.elim
        | cons y ys =>
          obtain ⟨r, hr, hs⟩ := aop_many (P := P) hR hF hop (by simp)
          refine val r.1 r.2 hs ?_
          cases hr with
          | head => exact h.1
          | tail _ hr => exact h.2 (valR r) (List.mem_map.2 ⟨r, hr, rfl⟩)

/-- How code ends. -/
def ExTo (ρ : Rho) : Ex → Exit → Prop
  | .normal, e => e = .normal
  | .exit id, e => e = .exit id
  | .ret, e => e = .ret
  | .goto l, e => e = .goto l
  | .pan v, e => ∃ x, e = .panic [{ v := x, recovered := false }] ∧ VRel ρ v x
def exOf : Option AV → Ex
  | none => .normal
  | some v => .pan v

theorem deferV_run {P : Program} {ρ : Rho} {F : Fr} {a : Act} (hF : FRel ρ F a) {c : Call} {d : ADef} (h : deferV F c = some d) (ty : TypeId) : ∃ d', (∀ w : World, (resolve a.eval c ty).run P w = .ok d' w) ∧ DRel ρ d d' := by
  unfold deferV at h
  obtain ⟨callee, xs, ats⟩ := c
  cases callee with
  | builtin b => cases h
  | invoke r m => cases h
  | value f =>
    simp only [] at h
    split at h
    · rename_i g first captured he
      cases h
      have hf := hF.eval f
      rw [he] at hf
      simp only [VRel] at hf
      obtain ⟨p, q, e, hp, hq⟩ := hf
      refine ⟨⟨.fn (.func g) q, p ++ xs.map a.eval⟩, fun w => ?_, q, rfl, ?_, hq⟩
      · simp only [resolve, e, Deferred.ofValue]; rfl
      · rw [appL_eq, Array.toList_append]
        exact hp.append (args_rel hF xs)
    · cases h
theorem isDefer_some {o : Oper} {c : Call} (h : isDefer o = some c) : o.op = .defer c := by
  unfold isDefer at h
  split at h
  · cases h; assumption
  · cases h

/-- Operations in their text's order. -/
theorem runOps_wp {P : Program} {cx : Cx} {ro : Option Nat} (hcx : CxOk Λ P cx) {K : CallK} (hK : KSound Λ P K) {ops : Array Oper} (hro : ro = none ∨ plainOps ops.toList = true) {Q : Exit → Act → World → Prop} :
    ∀ (l : List Oper) (i : Nat) (ρ : Rho) (F : Fr) (S : AS) (w : World) (a : Act), ops.toList.drop i = l → R Λ ρ S w → FRel ρ F a →
    (runOps cx K ops.toList l F S).All (fun r => ∀ ρ' e a' w', ExTo ρ' (exOf r.1) e → R Λ ρ' r.2.2 w' → FRel ρ' r.2.1 a' → Kp ρ S w ρ' r.2.2 w' → Q e a' w') →
    wpOpsIn (GF ro) 0 P ops Q (List.range' i l.length) a w := by
  intro l
  induction l with
  | nil => intro i ρ F S w a _ hR hF h; exact h.1 ρ _ a w rfl hR hF (Kp.refl _ _ _)
  | cons o l ih =>
    intro i ρ F S w a hd hR hF h
    have hio : ops[i]? = some o := by
      rw [← Array.getElem?_toList]
      have : (ops.toList.drop i)[0]? = some o := by rw [hd]; rfl
      rwa [List.getElem?_drop, Nat.add_zero] at this
    have hdl : ops.toList.drop (i + 1) = l := by
      rw [← List.drop_drop, hd]; rfl
    rw [List.length_cons, List.range'_succ, wpOpsIn_cons]
    have hun : runOps cx K ops.toList (o :: l) F S = (match isDefer o with
      | none => Res.bind (one cx K ops.toList o F S) fun r => cond r.1 (.ok (some r.2.1, F, r.2.2) []) (runOps cx K ops.toList l (putD F o.dst r.2.1) r.2.2)
      | some c => match wanted ops.toList F o with
        | some true => match deferV F c with
          | some d => runOps cx K ops.toList l (putD ⟨F.t, F.n, d :: F.ds⟩ o.dst .undef) S
          | none => .err 1009
        | some false => runOps cx K ops.toList l (putD F o.dst .undef) S
        | none => .err 1010) := rfl
    rw [hun] at h
    cases hdf : isDefer o with
    | none =>
      rw [hdf] at h
      refine one_wp hcx hK hR hF hio ?_
      refine (Res.all_bind h).mono fun r hr ρ' e w' hv hR' hk => ?_
      obtain ⟨b, v, S'⟩ := r
      cases b with
      | false =>
        obtain ⟨x, rfl, hx⟩ := hv.val
        exact ih (i + 1) ρ' _ _ w' _ hdl hR' ((hF.mono hk.ext).put o.dst hx) (hr.mono fun q hq ρ'' e a' w'' h0 h1 h2 h3 => hq ρ'' e a' w'' h0 h1 h2 (hk.trans h3))
      | true =>
        obtain ⟨x, rfl, hx⟩ := hv.pan
        exact hr.1 ρ' _ a w' ⟨x, rfl, hx⟩ hR' (hF.mono hk.ext) hk
    | some c =>
      rw [hdf] at h
      simp only [] at h
      have hop := isDefer_some hdf
      rcases hro with rfl | hp
      · unfold wpOpIn
        simp only [hio]
        cases hw : wanted ops.toList F o with
        | none => rw [hw] at h; exact h.elim
        | some b =>
          rw [hw] at h
          rw [wanted_ok hF hw]
          cases b with
          | false =>
            simp only [Bool.false_eq_true, if_false]
            exact ⟨fun f _ => GF_fn none f, ih (i + 1) ρ _ _ w _ hdl hR (hF.put o.dst (undef_rel ρ)) h⟩
          | true =>
            simp only [if_true]
            refine ⟨fun f _ => GF_fn none f, ?_⟩
            simp only [] at h
            cases hdv : deferV F c with
            | none => rw [hdv] at h; exact h.elim
            | some d =>
              rw [hdv] at h
              obtain ⟨d', r1, r2⟩ := deferV_run (P := P) hF hdv o.type
              have hrun : (execOp a.eval o).run P w = .ok (.defer d') w := by
                unfold execOp
                rw [hop]
                simp only [Sem.run_bind, r1, Result.andThen_ok, Sem.run_pure]
              show o.uponIn (GF none) 0 P a _ Q ((execOp a.eval o).run P w)
              rw [hrun]
              have hF2 : FRel ρ ⟨F.t, F.n, d :: F.ds⟩ { a with defers := d' :: a.defers } := ⟨hF.slot, hF.size, d', a.defers, rfl, r2, hF.defers⟩
              exact ih (i + 1) ρ _ _ w _ hdl hR (hF2.put o.dst (undef_rel ρ)) h
      · exfalso
        have hm : o ∈ ops.toList := List.mem_of_getElem? (by rw [Array.getElem?_toList]; exact hio)
        have := List.all_eq_true.1 hp o hm
        rw [hop] at this
        cases this

end Go.Am

namespace Go.Am
open Go
variable {Λ : LB}

/-- What a region that draws its order must bear: proved apart. -/
def DrawnOk (Λ : LB) (P : Program) (cx : Cx) : Prop :=
  ∀ (ro : Option Nat) (K : CallK), KSound Λ P K → ∀ (ops : Array Oper) (id : Nat) (Q : Exit → Act → World → Prop) (ρ : Rho) (F : Fr) (S : AS) (w : World) (a : Act), R Λ ρ S w → FRel ρ F a →
    (runDrawn cx K ops.toList F S).All (fun r => ∀ ρ' e a' w', ExTo ρ' (exOf r.1) e → R Λ ρ' r.2.2 w' → FRel ρ' r.2.1 a' → Kp ρ S w ρ' r.2.2 w' → Q e a' w') → (Code.region id ops true).wpIn (GF ro) 0 P Q a w

/-- What is asked of code's ends. -/
def EndsOk (Λ : LB) (ρ : Rho) (S : AS) (w : World) (Q : Exit → Act → World → Prop) (o : Out) : Prop :=
  ∀ ρ' e a' w', ExTo ρ' o.ex e → R Λ ρ' o.S w' → FRel ρ' o.F a' → Kp ρ S w ρ' o.S w' → Q e a' w'
/-- Code at a fuel. -/
def CodeOk (Λ : LB) (P : Program) (cx : Cx) (n : Nat) : Prop :=
  ∀ (ro : Option Nat) (c : Code) (Q : Exit → Act → World → Prop) (ρ : Rho) (F : Fr) (S : AS) (w : World) (a : Act), (ro = none ∨ plainC c = true) → R Λ ρ S w → FRel ρ F a →
    (exec cx n c F S).All (EndsOk Λ ρ S w Q) → c.wpIn (GF ro) 0 P Q a w
def LoopOk (Λ : LB) (P : Program) (cx : Cx) (n : Nat) : Prop :=
  ∀ (ro : Option Nat) (b : Code) (Q : Exit → Act → World → Prop) (ρ : Rho) (F : Fr) (S : AS) (w : World) (a : Act), (ro = none ∨ plainC b = true) → R Λ ρ S w → FRel ρ F a →
    (exec cx n (.loop b) F S).All (EndsOk Λ ρ S w Q) → Code.roundsIn (GF ro) 0 P b Q n a w
theorem EndsOk.trans {ρ ρ' : Rho} {S S' : AS} {w w' : World} {Q : Exit → Act → World → Prop} {o : Out} (hk : Kp ρ S w ρ' S' w') (h : EndsOk Λ ρ S w Q o) : EndsOk Λ ρ' S' w' Q o :=
  fun ρ'' e a w'' h0 h1 h2 h3 => h ρ'' e a w'' h0 h1 h2 (hk.trans h3)
theorem FRel.srel {ρ : Rho} {F : Fr} {a : Act} (h : FRel ρ F a) : SRel ρ F a.tmps := ⟨h.slot, h.size⟩

theorem initF_rel {ρ : Rho} {as : List AV} {args : Array Value} (h : LRel ρ as args.toList) (n : Nat) :
    FRel ρ (initF as n) { tmps := args ++ Array.replicate (n - args.size) undef, defers := [] } := by
  have hl := h.length
  refine ⟨fun t => ?_, ?_, (rfl : ([] : List Deferred) = [])⟩
  · show VRel ρ (match (T.ofL as 0 .leaf).get t with | some v => v | none => .undef) _
    rw [get_ofL]
    by_cases ht : t < as.length
    · rw [if_pos ⟨Nat.zero_le _, by omega⟩]
      obtain ⟨x, hx⟩ : ∃ x, as[t]? = some x := ⟨as[t], List.getElem?_eq_getElem ht⟩
      obtain ⟨y, hy, hr⟩ := h.get hx
      have hta : t < args.size := by simp at hl; omega
      have e : (args ++ Array.replicate (n - args.size) undef).getD t undef = y := by
        rw [Array.getD_eq_getD_getElem?, Array.getElem?_append_left hta, ← Array.getElem?_toList, hy]; rfl
      rw [e, Nat.sub_zero, hx]; exact hr
    · rw [if_neg (by omega), get_leaf]
      have e : (args ++ Array.replicate (n - args.size) undef).getD t undef = undef := by
        rw [Array.getD_eq_getD_getElem?]
        rcases Nat.lt_or_ge t (args ++ Array.replicate (n - args.size) undef).size with h1 | h1
        · rw [Array.getElem?_append_right (by simp at hl; omega), Array.getElem?_replicate]
          split <;> rfl
        · rw [Array.getElem?_eq_none h1]; rfl
      rw [e]; exact undef_rel ρ
  · show _ = Nat.add (lenL as) (Nat.sub n (lenL as))
    rw [lenL_eq]
    simp at hl
    simp [hl]

theorem SRel.eval {ρ : Rho} {F : Fr} {tmps : Array Value} (h : SRel ρ F tmps) (t : Tmp) : VRel ρ (Am.eval F (.tmp t)) (tmps.getD t undef) := by rw [eval_slot]; exact h.slot t
theorem loadV_run {P : Program} {cx : Cx} (hcx : CxOk Λ P cx) {ρ : Rho} {S : AS} {w : World} (hR : R Λ ρ S w) {t : TypeId} {x v : AV} {x' : Value} (h : loadV cx S t x = some v) (hx : VRel ρ x x') :
    ∃ z, (do loadVar t (← asAddr x')).run P w = .ok z w ∧ VRel ρ v z := by
  unfold loadV at h
  cases x <;> simp only [reduceCtorEq] at h
  rename_i id g off lim
  simp only [VRel] at hx
  obtain ⟨pl, p1, p2, rfl⟩ := hx
  cases ha : aggOf cx t with
  | none => simp [ha] at h
  | some b =>
    cases b with
    | true =>
      simp only [ha] at h
      cases hs : szOf cx t with
      | none => simp [hs] at h
      | some n =>
        simp only [hs] at h
        cases hr : rd S id g off n lim with
        | none => simp [hr] at h
        | some cs =>
          simp only [hr, Option.some.injEq] at h
          subst h
          obtain ⟨arr, q1, q2, q3, q4, _⟩ := load_row (P := P) hR hr p1 p2
          exact ⟨.agg arr, by simp only [asAddr, loadVar, Sem.run_bind, Sem.run_pure, Result.andThen_ok, run_agg hcx ha, if_true, run_sz hcx hs, q1], by simp only [VRel]; exact ⟨arr, rfl, q3, q4⟩⟩
    | false =>
      simp only [ha] at h
      split at h
      · rename_i u hr
        simp only [Option.some.injEq] at h
        subst h
        obtain ⟨arr, q1, q2, q3, q4, q5, q6⟩ := load_row (P := P) hR hr p1 p2
        obtain ⟨z, hz, hz2⟩ := q6 0 (by omega)
        refine ⟨z, ?_, ?_⟩
        · simp only [Nat.add_zero] at hz
          simp only [asAddr, loadVar, Sem.run_bind, Sem.run_pure, Result.andThen_ok, run_agg hcx ha, Bool.false_eq_true, if_false, run_load, hz]
        · obtain ⟨y, hy, hr'⟩ := q3.get (i := 0) (x := u) rfl
          rw [hz2] at hy; cases hy; exact hr'
      · cases h

theorem resL_run {P : Program} {cx : Cx} (hcx : CxOk Λ P cx) {ρ : Rho} {S : AS} {w : World} (hR : R Λ ρ S w) {F : Fr} {tmps : Array Value} (hF : SRel ρ F tmps) (f : ResultVar → Sem Value) (hf : ∀ t, f (.tmp t) = pure (tmps.getD t undef))
    (hf2 : ∀ t ty, f (.cell t ty) = (do loadVar ty (← asAddr (tmps.getD t undef)))) : ∀ (l : List ResultVar) (vs : List AV), resL cx F S l = some vs →
    ∃ xs : List Value, (l.mapM f).run P w = .ok xs w ∧ LRel ρ vs xs := by
  intro l
  induction l with
  | nil => intro vs h; have h' : some [] = some vs := h; cases h'; exact ⟨[], rfl, LRel.nil⟩
  | cons r l ih =>
    intro vs h
    have h' : resStep cx F S r (resL cx F S l) = some vs := h
    unfold resStep at h'
    cases hl : resL cx F S l with
    | none => rw [hl] at h'; cases h'
    | some vs' =>
      rw [hl] at h'
      obtain ⟨xs, h1, h2⟩ := ih vs' hl
      cases r with
      | tmp t =>
        cases h'
        refine ⟨tmps.getD t undef :: xs, ?_, LRel.cons (hF.eval t) h2⟩
        simp only [List.mapM_cons, Sem.run_bind, hf, Sem.run_pure, Result.andThen_ok, h1]
      | cell t ty =>
        simp only [] at h'
        cases hv : loadV cx S ty (eval F (.tmp t)) with
        | none => rw [hv] at h'; cases h'
        | some v =>
          rw [hv] at h'
          cases h'
          obtain ⟨z, r1, r2⟩ := loadV_run (P := P) hcx hR hv (hF.eval t)
          refine ⟨z :: xs, ?_, LRel.cons r2 h2⟩
          have r1' : (f (.cell t ty)).run P w = .ok z w := by rw [hf2]; exact r1
          simp only [List.mapM_cons, Sem.run_bind, r1', Sem.run_pure, Result.andThen_ok, h1]

theorem resultsV_run {P : Program} {cx : Cx} (hcx : CxOk Λ P cx) {ρ : Rho} {S : AS} {w : World} (hR : R Λ ρ S w) {F : Fr} {tmps : Array Value} {fn : Func} {v : AV} (hF : SRel ρ F tmps) (h : resultsV cx fn F S = some v) :
    ∃ x, (results fn tmps).run P w = .ok x w ∧ VRel ρ v x := by
  unfold resultsV at h
  obtain ⟨f, hf, hf2, hres⟩ : ∃ f : ResultVar → Sem Value, (∀ t, f (.tmp t) = pure (tmps.getD t undef)) ∧ (∀ t ty, f (.cell t ty) = (do loadVar ty (← asAddr (tmps.getD t undef)))) ∧
      results fn tmps = (do let vs ← fn.results.mapM f; pure (if h : vs.size = 1 then vs[0] else .tuple vs)) := by
    refine ⟨_, ?_, ?_, rfl⟩
    · intro t; rfl
    · intro t ty; rfl
  rw [hres, Array.mapM_eq_mapM_toList]
  split at h
  · rename_i u hr
    cases h
    obtain ⟨xs, h1, h2⟩ := resL_run (P := P) hcx hR hF f hf hf2 _ _ hr
    simp only [LRel] at h2
    obtain ⟨y, ys, rfl, hy, rfl⟩ := h2
    refine ⟨y, ?_, hy⟩
    simp only [Sem.run_bind, Sem.run_map]
    rw [h1]
    rfl
  · rename_i vs hne hr
    cases h
    obtain ⟨xs, h1, h2⟩ := resL_run (P := P) hcx hR hF f hf hf2 _ _ hr
    refine ⟨.tuple xs.toArray, ?_, by simp only [VRel]; exact ⟨_, rfl, by simpa using h2⟩⟩
    have hl := h2.length
    have hn1 : xs.length ≠ 1 := by
      intro e
      cases vs with
      | nil => simp at hl; omega
      | cons v vs => cases vs with
        | nil => exact hne v rfl
        | cons _ _ => simp at hl; omega
    simp only [Sem.run_bind, Sem.run_map]
    rw [h1]
    simp only [Result.andThen_ok, Sem.run_pure]
    rw [dif_neg (by simpa using hn1)]
  · cases h

/-! ### A round of a range over a function -/
theorem putL_nil (F : Fr) (as : List AV) : putL F [] as = (match as with | [] => some F | _ => none) := by cases as <;> rfl
theorem putL_cons (F : Fr) (p : Tmp) (ps : List Tmp) (as : List AV) : putL F (p :: ps) as = (match as with | [] => none | a :: as => putL (putD F (some p) a) ps as) := by cases as <;> rfl
theorem putL_rel {ρ : Rho} : ∀ (ps : List Tmp) (as : List AV) (vs : List Value) (F F1 : Fr) (tmps : Array Value), putL F ps as = some F1 → LRel ρ as vs → FRel ρ F ⟨tmps, []⟩ →
    vs.length = ps.length ∧ FRel ρ F1 ⟨(ps.zip vs).foldl (fun tmps (t, a) => tmps.setIfInBounds t a) tmps, []⟩
  | [], as, vs, F, F1, tmps, h, hl, hF => by
    rw [putL_nil] at h
    cases as with
    | cons a as => cases h
    | nil =>
      cases h
      simp only [LRel] at hl
      subst hl
      exact ⟨rfl, hF⟩
  | p :: ps, as, vs, F, F1, tmps, h, hl, hF => by
    rw [putL_cons] at h
    cases as with
    | nil => cases h
    | cons a as =>
      simp only [LRel] at hl
      obtain ⟨y, ys, rfl, h1, h2⟩ := hl
      obtain ⟨r1, r2⟩ := putL_rel ps as ys (putD F (some p) a) F1 (tmps.setIfInBounds p y) h h2 (hF.put (some p) h1)
      exact ⟨by simp [r1], r2⟩

/-- The loop's record, as it lies in the world. -/
theorem loop_at {ρ : Rho} {S : AS} {w : World} (hR : R Λ ρ S w) {id : Nat} {st : LoopState} {j : Option Code} {F : Fr} {ps : Array Tmp} {x y : Code} {pl : Pl} (hp : ρ id 0 = some pl) (ho : S.h.get id = some (.oth (.loop st j F ps x y))) :
    ∃ fn tmps d, w.heap[pl.b]? = some (.loop { state := st, pending := j, fn := fn, tmps := tmps, params := ps, assign := x, body := y, defers := d }) ∧ SRel ρ F tmps ∧ plainC x = true ∧ plainC y = true ∧ pl.base = 0 := by
  obtain ⟨pl', o, q1, q2, ⟨fn, tmps, d, rfl, q4, q5, q6⟩, q7⟩ := hR.objs id _ ho
  rw [hp] at q1; cases q1
  exact ⟨fn, tmps, d, q2, q4, q5, q6, q7⟩
theorem putObj_but (w : World) {b : Nat} {o o' : Obj} (h : w.heap[b]? = some o') : But b w (w.putObj b o) ∧ (w.putObj b o).heap[b]? = some o := by
  have hlt : b < w.heap.size := (Array.getElem?_eq_some_iff.1 h).1
  exact ⟨⟨⟨rfl, rfl, rfl⟩, by simp, fun k hk => World.putObj_heap_other hk⟩, World.putObj_heap_same hlt⟩
/-- The record turns. -/
theorem R.setLoop {ρ : Rho} {S : AS} {w : World} (hR : R Λ ρ S w) {id : Nat} {st st' : LoopState} {j j' : Option Code} {F : Fr} {ps : Array Tmp} {x y : Code} {pl : Pl} (hp : ρ id 0 = some pl) (ho : S.h.get id = some (.oth (.loop st j F ps x y)))
    {fn : FuncId} {tmps : Array Value} {d : Nat} (hw : w.heap[pl.b]? = some (.loop { state := st, pending := j, fn := fn, tmps := tmps, params := ps, assign := x, body := y, defers := d })) :
    R Λ ρ (setO S id (.loop st' j' F ps x y)) (w.putObj pl.b (.loop { state := st', pending := j', fn := fn, tmps := tmps, params := ps, assign := x, body := y, defers := d })) ∧
      Kp ρ S w ρ (setO S id (.loop st' j' F ps x y)) (w.putObj pl.b (.loop { state := st', pending := j', fn := fn, tmps := tmps, params := ps, assign := x, body := y, defers := d })) := by
  obtain ⟨fn', tmps', d', e1, e2, e3, e4, e5⟩ := loop_at hR hp ho
  rw [hw] at e1; cases e1
  obtain ⟨b1, b2⟩ := putObj_but w (o := .loop { state := st', pending := j', fn := fn, tmps := tmps, params := ps, assign := x, body := y, defers := d }) hw
  exact hR.setOth (x := .loop st' j' F ps x y) ho (by intro a b c d t e; cases e) hp b1 b2 ⟨fn, tmps, d, rfl, e2, e3, e4⟩ e5

theorem roundEnd_ok {P : Program} {ρ ρ' : Rho} {S S' : AS} {w w' : World} {id : Nat} {pl : Pl} {ex : Ex} {e : Exit} {a : Act} {Post : Ending → World → Prop} (hp : ρ' id 0 = some pl) (hR : R Λ ρ' S' w') (hk : Kp ρ S w ρ' S' w') (he : ExTo ρ' ex e)
    (h : (roundEnd id ex S').All (fun r => ∀ ρ' e w', RetOk ρ' r.1 e → R Λ ρ' r.2 w' → Kp ρ S w ρ' r.2 w' → Post e w')) : roundPost P pl.b Post e a w' := by
  unfold roundEnd at h
  split at h
  · rename_i st j F ps x y ho
    obtain ⟨fn, tmps, d, e1, _⟩ := loop_at hR hp ho
    have fin : ∀ (jump : Option Code) (v : Bool), jump.isNone = v → (∀ ρ'' e w'', RetOk ρ'' (.bool v) e → R Λ ρ'' (setO S' id (.loop (if jump.isNone then .ready else .done) jump F ps x y)) w'' → Kp ρ S w ρ'' (setO S' id (.loop (if jump.isNone then .ready else .done) jump F ps x y)) w'' → Post e w'') →
        ∃ u w'', (Instr.endRound pl.b jump).run P w' = .ok u w'' ∧ Post (.returned u) w'' := by
      intro jump v hv hpost
      obtain ⟨t1, t2⟩ := hR.setLoop (st' := if jump.isNone then .ready else .done) (j' := jump) hp ho e1
      exact ⟨_, _, run_endRound jump e1, hpost ρ' _ _ (by rw [hv]; exact RetOk.of (by simp [VRel])) t1 (hk.trans t2)⟩
    cases ex with
    | normal => cases he; exact fin none true rfl h.1
    | ret => cases he; exact fin (some .ret) false rfl h.1
    | exit i => cases he; exact fin (some (.exit i)) false rfl h.1
    | goto l => cases he; exact fin (some (.goto l)) false rfl h.1
    | pan v => exact h.elim
  · exact h.elim

theorem roundF_ok {P : Program} {cx : Cx} {n : Nat} (hc : CodeOk Λ P cx n) {ρ : Rho} {id : Nat} {as : List AV} {S : AS} {w : World} {args : Array Value} {Post : Ending → World → Prop}
    (h : (roundF (exec cx n) id as S).All (fun r => ∀ ρ' e w', RetOk ρ' r.1 e → R Λ ρ' r.2 w' → Kp ρ S w ρ' r.2 w' → Post e w')) (hR : R Λ ρ S w) (hl : LRel ρ as args.toList) : TgtOk P ρ args w Post (.round id) := by
  intro pl hp
  unfold roundF at h
  split at h
  · rename_i j F ps x y ho
    obtain ⟨fn, tmps, d, e1, e2, e3, e4, e5⟩ := loop_at hR hp ho
    cases hput : putL ⟨F.t, F.n, []⟩ ps.toList as with
    | none => rw [hput] at h; exact h.elim
    | some F1 =>
      rw [hput] at h
      simp only [] at h
      obtain ⟨r1, r2⟩ := putL_rel (ρ := ρ) ps.toList as args.toList ⟨F.t, F.n, []⟩ F1 tmps hput hl ⟨e2.slot, e2.size, (rfl : ([] : List Deferred) = [])⟩
      have hsz : args.size = ps.size := by simpa using r1
      refine ⟨fn, _, x, y, run_yield e1 hsz, roundIn_of_wpIn trivial ?_⟩
      have hfold : (ps.zip args).foldl (fun tmps (t, a) => tmps.setIfInBounds t a) tmps = (ps.toList.zip args.toList).foldl (fun tmps (t, a) => tmps.setIfInBounds t a) tmps := by
        rw [← Array.foldl_toList, Array.toList_zip]
      rw [hfold]
      refine hc (some pl.b) x _ ρ F1 S w _ (.inr e3) hR r2 ((Res.all_bind h).mono fun o ho' ρ' e a' w' k0 k1 k2 k3 => ?_)
      cases hex : o.ex with
      | normal =>
        rw [hex] at ho' k0
        cases k0
        simp only [] at ho'
        split at ho'
        · rename_i j' F' ps' x' y' ho2
          have hp' := k3.ext id 0 pl hp
          obtain ⟨fn', tmps', d', f1, f2, f3, f4, f5⟩ := loop_at k1 hp' ho2
          obtain ⟨t1, t2⟩ := k1.setLoop (st' := .busy) (j' := j') hp' ho2 f1
          refine ⟨_, run_beginRound f1 rfl, ?_⟩
          -- the body is the record's of old
          have hbody : y' = y' := rfl
          refine hc (some pl.b) y _ ρ' o.F _ _ _ (.inr e4) t1 k2 ((Res.all_bind ho').mono fun o2 ho2' ρ'' e2 a2 w2 m0 m1 m2 m3 => ?_)
          exact roundEnd_ok (m3.ext id 0 pl hp') m1 (k3.trans (t2.trans m3)) m0 ho2'
        · exact ho'.elim
      | exit i => rw [hex] at ho'; exact ho'.elim
      | ret => rw [hex] at ho'; exact ho'.elim
      | goto l => rw [hex] at ho'; exact ho'.elim
      | pan v => rw [hex] at ho'; exact ho'.elim
  · exact h.elim

end Go.Am
