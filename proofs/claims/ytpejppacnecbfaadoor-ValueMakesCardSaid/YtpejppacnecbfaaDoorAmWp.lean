/-
  The abstract machine against the model: operations in a row.
-/
import Derived.Test.YtpejppacnecbfaaDoorAmSound
import Derived.LoopN
import Derived.Orders
namespace Go.Am
open Go
variable {Λ : LB}

def Res.All {α : Type} (r : Res α) (p : α → Prop) : Prop :=
  match r with
  | .err _ => False
  | .ok x xs => p x ∧ ∀ y, y ∈ xs → p y
theorem Res.All.mono {α : Type} {r : Res α} {p q : α → Prop} (h : r.All p) (hq : ∀ x, p x → q x) : r.All q := by
  cases r with
  | err n => exact h
  | ok x xs => exact ⟨hq x h.1, fun y hy => hq y (h.2 y hy)⟩
theorem Res.all_app {α : Type} {a b : Res α} {p : α → Prop} (h : (Res.app a b).All p) : a.All p ∧ b.All p := by
  cases a with
  | err n => exact h.elim
  | ok x xs =>
    cases b with
    | err n => exact h.elim
    | ok y ys =>
      obtain ⟨h1, h2⟩ := h
      simp only [appL_eq] at h2
      exact ⟨⟨h1, fun z hz => h2 z (List.mem_append_left _ hz)⟩, ⟨h2 y (by simp), fun z hz => h2 z (by simp [hz])⟩⟩
theorem Res.all_bind {α β : Type} {r : Res α} {f : α → Res β} {p : β → Prop} (h : (Res.bind r f).All p) : r.All fun x => (f x).All p := by
  cases r with
  | err n => exact h.elim
  | ok x xs =>
    cases xs with
    | nil => exact ⟨h, fun y hy => by cases hy⟩
    | cons y ys =>
      have h' : (Res.app (f x) (List.rec (motive := fun _ => α → Res β) (fun y => f y) (fun z _ ih y => Res.app (f y) (ih z)) ys y)).All p := h
      obtain ⟨h1, h2⟩ := Res.all_app h'
      refine ⟨h1, ?_⟩
      clear h h' h1
      induction ys generalizing y with
      | nil =>
        intro z hz
        simp at hz
        subst hz
        exact h2
      | cons z ys ih =>
        have h3 : (Res.app (f y) (List.rec (motive := fun _ => α → Res β) (fun y => f y) (fun z _ ih y => Res.app (f y) (ih z)) ys z)).All p := h2
        obtain ⟨h4, h5⟩ := Res.all_app h3
        intro u hu
        cases hu with
        | head => exact h4
        | tail _ hu => exact ih z h5 u hu

/-- What a call must bear. -/
def KSound (Λ : LB) (P : Program) (K : CallK) : Prop :=
  ∀ (ρ : Rho) (f : FuncId) (as : List AV) (S : AS) (w : World) (args : Array Value) (Post : Value → World → Prop),
    (K f as S).All (fun r => ∀ ρ' x w', VRel ρ' r.1 x → R Λ ρ' r.2 w' → Kp ρ S w ρ' r.2 w' → Post x w') → R Λ ρ S w → LRel ρ as args.toList →
    (∃ fn, P.funcs[f]? = some fn ∧ fn.body.isSome = true) ∧ Calls P f args w fun e w' => ∃ x, e = .returned x ∧ Post x w'

theorem aop_enter {cx : Cx} {ρ : Rho} {F : Fr} {S S' : AS} {a : Act} (hF : FRel ρ F a) {o : Oper} {f : FuncId} {as : List AV}
    (h : aop cx F S o = .enter f as S') : S' = S ∧ ∃ args, execOp a.eval o = callFunc f args ∧ LRel ρ as args.toList := by
  obtain ⟨dst, op, ty, pos, after, guard⟩ := o
  have nv : ∀ (v : Option AV) n, val? v S n ≠ .enter f as S' := fun v n e => by cases v <;> cases e
  have nvs : ∀ (v : Option (AV × AS)) n, vals? v n ≠ .enter f as S' := fun v n e => by cases v with
    | none => cases e
    | some x => cases e
  have nf : ∀ r n, freshR r S n ≠ .enter f as S' := fun r n e => by cases r with
    | none => cases e
    | some x => cases e
  cases op <;> simp only [aop, reduceCtorEq] at h
  case call c =>
    obtain ⟨callee, xs, ats⟩ := c
    cases callee with
    | invoke r m => cases h
    | builtin b =>
      exfalso
      simp only [] at h
      unfold builtinV at h
      split at h
      · split at h <;> cases h
      · split at h <;> cases h
      · split at h
        · cases h
        · split at h
          · cases hz : zeroOk cx _ _ with
            | false => rw [hz] at h; cases h
            | true => rw [hz] at h; exact nvs _ _ h
          · cases h
        · cases h
      · split at h
        · split at h
          · exact nvs _ _ h
          · cases h
        · cases h
      · cases h
      · cases hc : Nat.blt 0 _ with
        | false => rw [hc] at h; cases h
        | true => rw [hc] at h; cases h
      · exact nvs _ _ h
      · exact nvs _ _ h
      · exact nvs _ _ h
      · exact nv _ _ h
      · exact nv _ _ h
      · cases h
    | value fx =>
      simp only [] at h
      unfold callV at h
      split at h
      · rename_i g first captured he
        cases hxt : cx.exts.get g with
        | some xt => rw [hxt] at h; exact absurd h (nv _ _)
        | none =>
        rw [hxt] at h
        simp only [AR.enter.injEq, appL_eq] at h
        obtain ⟨rfl, rfl, rfl⟩ := h
        have hf := hF.eval fx
        rw [he] at hf
        simp only [VRel] at hf
        obtain ⟨p, q, e, hp, hq⟩ := hf
        refine ⟨rfl, p ++ xs.map a.eval ++ q, ?_, ?_⟩
        · simp only [execOp, resolve, e, Deferred.ofValue]; rfl
        · simp only [Array.toList_append, List.append_assoc]
          exact hp.append ((args_rel hF xs).append hq)
      · cases h
  all_goals exfalso
  case pick c x y => split at h <;> cases h
  case alloc e => exact nf _ _ h
  case box t x => exact nf _ _ h
  case build t parts => exact nv _ _ h
  case buildSlice t n parts => exact nf _ _ h
  case load t x =>
    split at h
    · repeat (split at h <;> try (cases h; done))
    · split at h
      · exact nv _ _ h
      · cases h
    · cases h
  case store t x y =>
    split at h
    · cases hc : Nat.beq (lenL _) _ with
      | false => rw [hc] at h; cases h
      | true => rw [hc] at h; simp only [cond_true] at h; split at h <;> cases h
    · cases h
  case nilCheck x => split at h <;> cases h
  case binOp op t x y yt => exact nv _ _ h
  case unOp op t x => exact nv _ _ h
  case convert src dst x =>
    split at h <;> (try (cases h; done)) <;> (repeat (split at h <;> try (cases h; done)))
    · cases hc : (Nat.blt _ _ && Nat.ble _ _ && Nat.ble _ _) with
      | false => rw [hc] at h; cases h
      | true => rw [hc] at h; cases h
    · cases hc : (Nat.beq _ _ && Nat.ble _ _ && Nat.beq _ _) with
      | false => rw [hc] at h; cases h
      | true => rw [hc] at h; cases h
  case makeInterface t x => split at h <;> cases h
  case makeMap t r => exact nf _ _ h
  case makeSlice t l c => exact nf _ _ h
  case slice t x lo hi mx => exact nv _ _ h
  case fieldAddr s x g => repeat (split at h <;> try (cases h; done))
  case field t x g =>
    split at h
    · split at h
      · exact nv _ _ h
      · cases h
    · cases h
  case indexAddr t x ix =>
    split at h
    · split at h
      · cases hc : (Nat.beq _ _ && Nat.blt _ _) with
        | false => rw [hc] at h; cases h
        | true => rw [hc] at h; cases h
      · cases h
    · split at h
      · cases hc : Nat.blt _ _ with
        | false => rw [hc] at h; cases h
        | true => rw [hc] at h; cases h
      · cases h
    · split at h
      · cases hc : Nat.blt _ _ with
        | false => rw [hc] at h; cases h
        | true => rw [hc] at h; cases h
      · cases h
    · cases h
  case typeAssert x xt t ok => exact nv _ _ h
  case index t x ix =>
    split at h
    · split at h <;> cases h
    · split at h
      · cases hc : Nat.blt _ _ with
        | false => rw [hc] at h; cases h
        | true => rw [hc] at h; exact nv _ _ h
      · cases h
    · cases h
  case lookup t x ix ok => exact nv _ _ h
  case mapUpdate t m k x => exact nvs _ _ h
  case extract x i =>
    split at h
    · exact nv _ _ h
    · cases h

theorem getD_bool {a : Act} {d : Nat} {b : Bool} (h : a.tmps.getD d undef = .bool b) : a.tmps[d]? = some (.bool b) := by
  rw [Array.getD_eq_getD_getElem?] at h
  cases hd : a.tmps[d]? with
  | none => rw [hd] at h; cases h
  | some x => rw [hd] at h; simp at h; rw [h]

theorem wanted_ok {ρ : Rho} {F : Fr} {a : Act} (hF : FRel ρ F a) {ops : Array Oper} {o : Oper} {b : Bool} (h : wanted ops.toList F o = some b) :
    Region.wanted o (yielded ops a.tmps) = b := by
  unfold wanted at h
  unfold Region.wanted
  cases hg : o.guard with
  | none => simp only [hg, Option.some.injEq] at h; simpa [hg] using h
  | some jw =>
    obtain ⟨j, want⟩ := jw
    simp only [hg] at h ⊢
    rw [nth_eq] at h
    unfold yielded
    rw [Array.getElem?_toList] at h
    cases hj : ops[j]? with
    | none => simp only [hj, Option.some.injEq] at h; subst h; rfl
    | some p =>
      simp only [hj] at h
      cases hd : p.dst with
      | none => simp only [hd, Option.some.injEq] at h; subst h; simp [hd]
      | some d =>
        simp only [hd] at h
        have hs := hF.slot d
        simp only [Option.bind_some, hd]
        cases hv : F.t.get d with
        | none =>
          rw [hv] at hs h
          simp only [Option.some.injEq] at h
          subst h
          simp only [AV.undef, VRel] at hs
          obtain ⟨x, hx, _⟩ := hs
          cases hm : a.tmps[d]? with
          | none => rfl
          | some y =>
            rw [Array.getD_eq_getD_getElem?, hm] at hx
            simp at hx
            subst hx; rfl
        | some v =>
          rw [hv] at hs h
          simp only [] at hs
          have hne : (∀ c, a.tmps.getD d undef ≠ Value.bool c) → ∀ c, a.tmps[d]? ≠ some (.bool c) := by
            intro hne c hc
            exact absurd (by rw [Array.getD_eq_getD_getElem?, hc]; rfl) (hne c)
          cases v <;> simp only [Option.some.injEq, reduceCtorEq] at h <;> (try simp only [VRel] at hs)
          case bool c =>
            rw [getD_bool hs]
            subst h
            cases want <;> cases c <;> rfl
          all_goals
            subst h
            have hn2 : ∀ c, a.tmps[d]? ≠ some (.bool c) := by
              refine hne fun c hc => ?_
              rw [hc] at hs
              first
                | (cases hs; done)
                | (obtain ⟨_, hh, _⟩ := hs; cases hh; done)
                | (obtain ⟨_, _, hh⟩ := hs; cases hh; done)
                | (obtain ⟨_, _, _, hh⟩ := hs; cases hh; done)
                | (obtain ⟨_, _, hh, _⟩ := hs; cases hh; done)
                | (obtain ⟨_, _, _, _, _, _, _, hh⟩ := hs; rcases hh with ⟨hh, _⟩ | ⟨_, _, _, _, hh⟩ <;> cases hh)
            cases hm : a.tmps[d]? with
            | none => rfl
            | some y => cases y with
              | bool c => exact absurd hm (hn2 c)
              | _ => rfl

/-- One operation's step. -/
theorem one_wp {P : Program} {cx : Cx} (hcx : CxOk Λ P cx) {K : CallK} (hK : KSound Λ P K) {ρ : Rho} {F : Fr} {S : AS} {w : World} {a : Act} (hR : R Λ ρ S w) (hF : FRel ρ F a)
    {ops : Array Oper} {i : Nat} {o : Oper} (hi : ops[i]? = some o) {next : Act → World → Prop} {Q : Exit → Act → World → Prop}
    (h : (one cx K ops.toList o F S).All fun r => ∀ ρ' x w', VRel ρ' r.1 x → R Λ ρ' r.2 w' → Kp ρ S w ρ' r.2 w' → next (a.put o.dst x) w') :
    wpOp P ops Q i next a w := by
  unfold wpOp
  simp only [hi]
  unfold one at h
  cases hw : wanted ops.toList F o with
  | none => rw [hw] at h; exact h.elim
  | some b =>
    rw [hw] at h
    rw [wanted_ok hF hw]
    cases b with
    | false =>
      simp only [Bool.false_eq_true, if_false]
      exact h.1 ρ undef w (undef_rel ρ) hR (Kp.refl _ _ _)
    | true =>
      simp only [if_true]
      refine .inl ?_
      simp only [] at h
      cases hop : aop cx F S o with
      | err n => rw [hop] at h; exact h.elim
      | val v S' =>
        rw [hop] at h
        obtain ⟨nx, x, ρ', w', r1, r2, r3, r4, r5⟩ := aop_sound hcx hR hF hop
        have hn := h.1 ρ' x w' r3 r4 r5
        unfold Oper.wp
        rw [r1]
        cases nx <;> simp only [nextVal, Option.some.injEq, reduceCtorEq] at r2
        · subst r2; exact hn
        · subst r2; exact hn
      | enter f as S' =>
        rw [hop] at h
        obtain ⟨rfl, args, e1, e2⟩ := aop_enter hF hop
        obtain ⟨⟨fn, hfn, hbody⟩, hcalls⟩ := hK ρ f as S' w args (fun x w' => next (a.put o.dst x) w') h hR e2
        unfold Oper.wp
        rw [e1, hcx.enters f fn hfn hbody args w]
        exact hcalls.mono fun e w' he => by obtain ⟨x, rfl, hx⟩ := he; exact hx

/-- Operations in their text's order. -/
theorem runOps_wp {P : Program} {cx : Cx} (hcx : CxOk Λ P cx) {K : CallK} (hK : KSound Λ P K) {ops : Array Oper} {Q : Exit → Act → World → Prop} :
    ∀ (l : List Oper) (i : Nat) (ρ : Rho) (F : Fr) (S : AS) (w : World) (a : Act), ops.toList.drop i = l → R Λ ρ S w → FRel ρ F a →
    (runOps cx K ops.toList l F S).All (fun r => ∀ ρ' a' w', R Λ ρ' r.2 w' → FRel ρ' r.1 a' → Kp ρ S w ρ' r.2 w' → Q .normal a' w') →
    wpOps P ops Q (List.range' i l.length) a w := by
  intro l
  induction l with
  | nil => intro i ρ F S w a _ hR hF h; exact h.1 ρ a w hR hF (Kp.refl _ _ _)
  | cons o l ih =>
    intro i ρ F S w a hd hR hF h
    have hio : ops[i]? = some o := by
      rw [← Array.getElem?_toList]
      have : (ops.toList.drop i)[0]? = some o := by rw [hd]; rfl
      rwa [List.getElem?_drop, Nat.add_zero] at this
    have hdl : ops.toList.drop (i + 1) = l := by
      rw [← List.drop_drop, hd]; rfl
    rw [List.length_cons, List.range'_succ, wpOps_cons]
    refine one_wp hcx hK hR hF hio ?_
    have h' : (Res.bind (one cx K ops.toList o F S) fun r => runOps cx K ops.toList l (putD F o.dst r.1) r.2).All _ := h
    refine (Res.all_bind h').mono fun r hr ρ' x w' hv hR' hk => ?_
    exact ih (i + 1) ρ' _ _ w' _ hdl hR' ((hF.mono hk.ext).put o.dst hv) (hr.mono fun q hq ρ'' a' w'' h1 h2 h3 => hq ρ'' a' w'' h1 h2 (hk.trans h3))

end Go.Am
