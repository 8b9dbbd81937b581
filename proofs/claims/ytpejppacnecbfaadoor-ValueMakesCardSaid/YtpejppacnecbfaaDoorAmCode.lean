/-
  The abstract machine against the model: code, calls.
-/
import Derived.Test.YtpejppacnecbfaaDoorAmWp
import Derived.Scope
namespace Go.Am
open Go
variable {Λ : LB}

def Ex.to : Ex → Exit
  | .normal => .normal
  | .exit id => .exit id
  | .ret => .ret

/-- What a region that draws its order must bear: proved apart. -/
def DrawnOk (Λ : LB) (P : Program) (cx : Cx) : Prop :=
  ∀ (K : CallK), KSound Λ P K → ∀ (ops : Array Oper) (id : Nat) (Q : Exit → Act → World → Prop) (ρ : Rho) (F : Fr) (S : AS) (w : World) (a : Act), R Λ ρ S w → FRel ρ F a →
    (runDrawn cx K ops.toList F S).All (fun r => ∀ ρ' a' w', R Λ ρ' r.2 w' → FRel ρ' r.1 a' → Kp ρ S w ρ' r.2 w' → Q .normal a' w') → (Code.region id ops true).wp P Q a w

/-- Code at a fuel. -/
def CodeOk (Λ : LB) (P : Program) (cx : Cx) (n : Nat) : Prop :=
  ∀ (c : Code) (Q : Exit → Act → World → Prop) (ρ : Rho) (F : Fr) (S : AS) (w : World) (a : Act), R Λ ρ S w → FRel ρ F a →
    (exec cx n c F S).All (fun o => ∀ ρ' a' w', R Λ ρ' o.S w' → FRel ρ' o.F a' → Kp ρ S w ρ' o.S w' → Q o.ex.to a' w') → c.wp P Q a w
def LoopOk (Λ : LB) (P : Program) (cx : Cx) (n : Nat) : Prop :=
  ∀ (b : Code) (Q : Exit → Act → World → Prop) (ρ : Rho) (F : Fr) (S : AS) (w : World) (a : Act), R Λ ρ S w → FRel ρ F a →
    (exec cx n (.loop b) F S).All (fun o => ∀ ρ' a' w', R Λ ρ' o.S w' → FRel ρ' o.F a' → Kp ρ S w ρ' o.S w' → Q o.ex.to a' w') → Code.rounds P b Q n a w

theorem initF_rel {ρ : Rho} {as : List AV} {args : Array Value} (h : LRel ρ as args.toList) (n : Nat) :
    FRel ρ (initF as n) { tmps := args ++ Array.replicate (n - args.size) undef, defers := [] } := by
  have hl := h.length
  refine ⟨fun t => ?_, ?_, rfl⟩
  · show VRel ρ (match (T.ofL as 0 .leaf).get t with | some v => v | none => .undef) _
    rw [get_ofL]
    by_cases ht : t < as.length
    · rw [if_pos ⟨Nat.zero_le _, by omega⟩]
      obtain ⟨x, hx⟩ : ∃ x, as[t]? = some x := ⟨as[t], List.getElem?_eq_getElem ht⟩
      obtain ⟨y, hy, hr⟩ := h.get hx
      have hta : t < args.size := by simp at hl; omega
      have e : (args ++ Array.replicate (n - args.size) undef).getD t undef = y := by
        rw [Array.getD_eq_getD_getElem?, Array.getElem?_append_left hta, ← Array.getElem?_toList, hy]; rfl
      rw [e, Nat.sub_zero, hx]; exact hr
    · rw [if_neg (by omega), get_leaf]
      have e : (args ++ Array.replicate (n - args.size) undef).getD t undef = undef := by
        rw [Array.getD_eq_getD_getElem?]
        rcases Nat.lt_or_ge t (args ++ Array.replicate (n - args.size) undef).size with h1 | h1
        · rw [Array.getElem?_append_right (by simp at hl; omega), Array.getElem?_replicate]
          split <;> rfl
        · rw [Array.getElem?_eq_none h1]; rfl
      rw [e]; exact undef_rel ρ
  · show _ = Nat.add (lenL as) (Nat.sub n (lenL as))
    rw [lenL_eq]
    simp at hl
    simp [hl]

theorem loadV_run {P : Program} {cx : Cx} (hcx : CxOk Λ P cx) {ρ : Rho} {S : AS} {w : World} (hR : R Λ ρ S w) {t : TypeId} {x v : AV} {x' : Value} (h : loadV cx S t x = some v) (hx : VRel ρ x x') :
    ∃ z, (do loadVar t (← asAddr x')).run P w = .ok z w ∧ VRel ρ v z := by
  unfold loadV at h
  cases x <;> simp only [reduceCtorEq] at h
  rename_i id g off lim
  simp only [VRel] at hx
  obtain ⟨pl, p1, p2, rfl⟩ := hx
  cases ha : aggOf cx t with
  | none => simp [ha] at h
  | some b =>
    cases b with
    | true =>
      simp only [ha] at h
      cases hs : szOf cx t with
      | none => simp [hs] at h
      | some n =>
        simp only [hs] at h
        cases hr : rd S id g off n lim with
        | none => simp [hr] at h
        | some cs =>
          simp only [hr, Option.some.injEq] at h
          subst h
          obtain ⟨arr, q1, q2, q3, q4, _⟩ := load_row (P := P) hR hr p1 p2
          exact ⟨.agg arr, by simp only [asAddr, loadVar, Sem.run_bind, Sem.run_pure, Result.andThen_ok, run_agg hcx ha, if_true, run_sz hcx hs, q1], by simp only [VRel]; exact ⟨arr, rfl, q3, q4⟩⟩
    | false =>
      simp only [ha] at h
      split at h
      · rename_i u hr
        simp only [Option.some.injEq] at h
        subst h
        obtain ⟨arr, q1, q2, q3, q4, q5, q6⟩ := load_row (P := P) hR hr p1 p2
        obtain ⟨z, hz, hz2⟩ := q6 0 (by omega)
        refine ⟨z, ?_, ?_⟩
        · simp only [Nat.add_zero] at hz
          simp only [asAddr, loadVar, Sem.run_bind, Sem.run_pure, Result.andThen_ok, run_agg hcx ha, Bool.false_eq_true, if_false, run_load, hz]
        · obtain ⟨y, hy, hr'⟩ := q3.get (i := 0) (x := u) rfl
          rw [hz2] at hy; cases hy; exact hr'
      · cases h

theorem resL_run {P : Program} {cx : Cx} (hcx : CxOk Λ P cx) {ρ : Rho} {S : AS} {w : World} (hR : R Λ ρ S w) {F : Fr} {a : Act} (hF : FRel ρ F a) (f : ResultVar → Sem Value) (hf : ∀ t, f (.tmp t) = pure (a.tmps.getD t undef))
    (hf2 : ∀ t ty, f (.cell t ty) = (do loadVar ty (← asAddr (a.tmps.getD t undef)))) : ∀ (l : List ResultVar) (vs : List AV), resL cx F S l = some vs →
    ∃ xs : List Value, (l.mapM f).run P w = .ok xs w ∧ LRel ρ vs xs := by
  intro l
  induction l with
  | nil => intro vs h; have h' : some [] = some vs := h; cases h'; exact ⟨[], rfl, LRel.nil⟩
  | cons r l ih =>
    intro vs h
    have h' : resStep cx F S r (resL cx F S l) = some vs := h
    unfold resStep at h'
    cases hl : resL cx F S l with
    | none => rw [hl] at h'; cases h'
    | some vs' =>
      rw [hl] at h'
      obtain ⟨xs, h1, h2⟩ := ih vs' hl
      cases r with
      | tmp t =>
        cases h'
        refine ⟨a.tmps.getD t undef :: xs, ?_, LRel.cons (hF.eval (.tmp t)) h2⟩
        simp only [List.mapM_cons, Sem.run_bind, hf, Sem.run_pure, Result.andThen_ok, h1]
      | cell t ty =>
        simp only [] at h'
        cases hv : loadV cx S ty (eval F (.tmp t)) with
        | none => rw [hv] at h'; cases h'
        | some v =>
          rw [hv] at h'
          cases h'
          obtain ⟨z, r1, r2⟩ := loadV_run (P := P) hcx hR hv (hF.eval (.tmp t))
          refine ⟨z :: xs, ?_, LRel.cons r2 h2⟩
          have r1' : (f (.cell t ty)).run P w = .ok z w := by rw [hf2]; exact r1
          simp only [List.mapM_cons, Sem.run_bind, r1', Sem.run_pure, Result.andThen_ok, h1]

theorem resultsV_run {P : Program} {cx : Cx} (hcx : CxOk Λ P cx) {ρ : Rho} {S : AS} {w : World} (hR : R Λ ρ S w) {F : Fr} {a : Act} {fn : Func} {v : AV} (hF : FRel ρ F a) (h : resultsV cx fn F S = some v) :
    ∃ x, (results fn a.tmps).run P w = .ok x w ∧ VRel ρ v x := by
  unfold resultsV at h
  obtain ⟨f, hf, hf2, hres⟩ : ∃ f : ResultVar → Sem Value, (∀ t, f (.tmp t) = pure (a.tmps.getD t undef)) ∧ (∀ t ty, f (.cell t ty) = (do loadVar ty (← asAddr (a.tmps.getD t undef)))) ∧
      results fn a.tmps = (do let vs ← fn.results.mapM f; pure (if h : vs.size = 1 then vs[0] else .tuple vs)) := by
    refine ⟨_, ?_, ?_, rfl⟩
    · intro t; rfl
    · intro t ty; rfl
  rw [hres, Array.mapM_eq_mapM_toList]
  split at h
  · rename_i u hr
    cases h
    obtain ⟨xs, h1, h2⟩ := resL_run (P := P) hcx hR hF f hf hf2 _ _ hr
    simp only [LRel] at h2
    obtain ⟨y, ys, rfl, hy, rfl⟩ := h2
    refine ⟨y, ?_, hy⟩
    simp only [Sem.run_bind, Sem.run_map]
    rw [h1]
    rfl
  · rename_i vs hne hr
    cases h
    obtain ⟨xs, h1, h2⟩ := resL_run (P := P) hcx hR hF f hf hf2 _ _ hr
    refine ⟨.tuple xs.toArray, ?_, by simp only [VRel]; exact ⟨_, rfl, by simpa using h2⟩⟩
    have hl := h2.length
    have hn1 : xs.length ≠ 1 := by
      intro e
      cases vs with
      | nil => simp at hl; omega
      | cons v vs => cases vs with
        | nil => exact hne v rfl
        | cons _ _ => simp at hl; omega
    simp only [Sem.run_bind, Sem.run_map]
    rw [h1]
    simp only [Result.andThen_ok, Sem.run_pure]
    rw [dif_neg (by simpa using hn1)]
  · cases h

theorem callF_ok {P : Program} {cx : Cx} (hcx : CxOk Λ P cx) {n : Nat} (hc : CodeOk Λ P cx n) : KSound Λ P (callF cx (exec cx n)) := by
  intro ρ f as S w args Post h hR hl
  unfold callF at h
  cases hq : cx.prims.get f with
  | some q =>
    rw [hq] at h
    simp only [] at h
    cases hr : q as S with
    | none => rw [hr] at h; exact h.elim
    | some r =>
      rw [hr] at h
      obtain ⟨v, S'⟩ := r
      obtain ⟨hfn, hcalls⟩ := hcx.prims f q hq ρ as S w args v S' hR hl hr
      refine ⟨hfn, hcalls.mono fun e w' he => ?_⟩
      obtain ⟨x, ρ', e1, e2, e3, e4⟩ := he
      exact ⟨x, e1, h.1 ρ' x w' e2 e3 e4⟩
  | none =>
  rw [hq] at h
  simp only [] at h
  cases hf : cx.fns.get f with
  | none => rw [hf] at h; exact h.elim
  | some fn =>
    rw [hf] at h
    simp only [] at h
    have hfn := hcx.fns f fn hf
    cases hb : fn.body with
    | none => rw [hb] at h; exact h.elim
    | some c =>
      rw [hb] at h
      simp only [] at h
      refine ⟨⟨fn, hfn, by rw [hb]; rfl⟩, calls_of_wp hfn hb ?_⟩
      refine hc c _ ρ _ S w _ hR (initF_rel hl fn.ntmps) ?_
      refine (Res.all_bind h).mono fun o ho ρ' a' w' h1 h2 h3 => ?_
      cases he : o.ex with
      | exit id => rw [he] at ho; exact ho.elim
      | normal =>
        rw [he] at ho
        simp only [] at ho
        cases hv : resultsV cx fn o.F o.S with
        | none => rw [hv] at ho; exact ho.elim
        | some v =>
          rw [hv] at ho
          obtain ⟨x, r1, r2⟩ := resultsV_run (P := P) hcx h1 h2 hv
          exact ⟨h2.defers, x, r1, x, rfl, ho.1 ρ' x w' r2 h1 h3⟩
      | ret =>
        rw [he] at ho
        simp only [] at ho
        cases hv : resultsV cx fn o.F o.S with
        | none => rw [hv] at ho; exact ho.elim
        | some v =>
          rw [hv] at ho
          obtain ⟨x, r1, r2⟩ := resultsV_run (P := P) hcx h1 h2 hv
          exact ⟨h2.defers, x, r1, x, rfl, ho.1 ρ' x w' r2 h1 h3⟩

theorem code_ok {P : Program} {cx : Cx} (hcx : CxOk Λ P cx) (hd : DrawnOk Λ P cx) : ∀ n, CodeOk Λ P cx n ∧ LoopOk Λ P cx n := by
  intro n
  induction n with
  | zero => exact ⟨fun c Q ρ F S w a _ _ h => h.elim, fun c Q ρ F S w a _ _ h => h.elim⟩
  | succ n ih =>
    obtain ⟨ic, il⟩ := ih
    have hK := callF_ok hcx ic
    have loop : LoopOk Λ P cx (n + 1) := by
      intro b Q ρ F S w a hR hF h
      rw [rounds_succ]
      have h' : (Res.bind (exec cx n b F S) fun o => match o.ex with
        | .normal => exec cx n (.loop b) o.F o.S
        | _ => .ok o []).All _ := h
      refine ic b _ ρ F S w a hR hF ((Res.all_bind h').mono fun o ho ρ' a' w' h1 h2 h3 => ?_)
      cases he : o.ex with
      | normal =>
        rw [he] at ho
        exact il b Q ρ' o.F o.S w' a' h1 h2 (ho.mono fun o2 ho2 ρ'' a'' w'' k1 k2 k3 => ho2 ρ'' a'' w'' k1 k2 (h3.trans k3))
      | exit id => rw [he] at ho; have := ho.1 ρ' a' w' h1 h2 h3; rw [he] at this; exact this
      | ret => rw [he] at ho; have := ho.1 ρ' a' w' h1 h2 h3; rw [he] at this; exact this
    refine ⟨?_, loop⟩
    intro c Q ρ F S w a hR hF h
    cases c with
    | skip => exact wp_skip (h.1 ρ a w hR hF (Kp.refl _ _ _))
    | ret => exact wp_ret (h.1 ρ a w hR hF (Kp.refl _ _ _))
    | exit id => exact wp_exit (h.1 ρ a w hR hF (Kp.refl _ _ _))
    | region id ops draw =>
      cases draw with
      | false =>
        refine wp_region ?_
        have h' : (Res.bind (runOps cx (callF cx (exec cx n)) ops.toList ops.toList F S) fun r => .ok (⟨.normal, r.1, r.2⟩ : Out) []).All _ := h
        have := runOps_wp hcx hK (Q := Q) ops.toList 0 ρ F S w a rfl hR hF ((Res.all_bind h').mono fun r hr => hr.1)
        rw [List.range_eq_range']
        simpa using this
      | true =>
        have h' : (Res.bind (runDrawn cx (callF cx (exec cx n)) ops.toList F S) fun r => .ok (⟨.normal, r.1, r.2⟩ : Out) []).All _ := h
        exact hd _ hK ops id Q ρ F S w a hR hF ((Res.all_bind h').mono fun r hr => hr.1)
    | seq x y =>
      have h' : (Res.bind (exec cx n x F S) fun o => match o.ex with
        | .normal => exec cx n y o.F o.S
        | _ => .ok o []).All _ := h
      refine wp_seq (ic x _ ρ F S w a hR hF ((Res.all_bind h').mono fun o ho ρ' a' w' h1 h2 h3 => ?_))
      cases he : o.ex with
      | normal =>
        rw [he] at ho
        exact ic y Q ρ' o.F o.S w' a' h1 h2 (ho.mono fun o2 ho2 ρ'' a'' w'' k1 k2 k3 => ho2 ρ'' a'' w'' k1 k2 (h3.trans k3))
      | exit id => rw [he] at ho; have := ho.1 ρ' a' w' h1 h2 h3; rw [he] at this; exact this
      | ret => rw [he] at ho; have := ho.1 ρ' a' w' h1 h2 h3; rw [he] at this; exact this
    | cond x y z =>
      have h' : (match eval F x with
        | .bool true => exec cx n y F S
        | .bool false => exec cx n z F S
        | _ => .err 3001).All _ := h
      have hx := hF.eval x
      split at h'
      · rename_i he
        rw [he] at hx
        exact wp_cond_true (by simpa [VRel] using hx) (ic y Q ρ F S w a hR hF h')
      · rename_i he
        rw [he] at hx
        exact wp_cond_false (by simpa [VRel] using hx) (ic z Q ρ F S w a hR hF h')
      · exact h'.elim
    | block id b =>
      have h' : (Res.bind (exec cx n b F S) fun o => match o.ex with
        | .exit j => cond (Nat.beq j id) (.ok ⟨.normal, o.F, o.S⟩ []) (.ok o [])
        | _ => .ok o []).All _ := h
      refine wp_block (ic b _ ρ F S w a hR hF ((Res.all_bind h').mono fun o ho ρ' a' w' h1 h2 h3 => ?_))
      cases he : o.ex with
      | normal => rw [he] at ho; have := ho.1 ρ' a' w' h1 h2 h3; rw [he] at this; exact this
      | ret => rw [he] at ho; have := ho.1 ρ' a' w' h1 h2 h3; rw [he] at this; exact this
      | exit j =>
        rw [he] at ho
        simp only [nbeq] at ho
        show Exit.inBlock id Q (.exit j) a' w'
        by_cases hj : j = id
        · rw [decide_eq_true hj] at ho
          simp only [Exit.inBlock, if_pos hj]
          exact ho.1 ρ' a' w' h1 h2 h3
        · rw [decide_eq_false hj] at ho
          simp only [Exit.inBlock, if_neg hj]
          have := ho.1 ρ' a' w' h1 h2 h3
          rw [he] at this; exact this
    | loop b => exact wp_loop_rounds (n + 1) (loop b Q ρ F S w a hR hF h)
    | rangeFunc f p x y => exact (h : False).elim
    | scope b => exact (h : False).elim
    | label l => exact (h : False).elim
    | goto l => exact (h : False).elim
    | refuse s => exact (h : False).elim

end Go.Am
