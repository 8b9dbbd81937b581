/-
  The abstract machine against the model: code, calls.
-/
import Derived.Test.YtgeghppdhjlbiaaGreatDoorAmWp
import Derived.LoopNIn
import Derived.RecoverIn
import Derived.RangeFuncLeaves
namespace Go.Am
open Go
variable {Λ : LB}

/-- What a region that draws its order must bear: proved apart. -/
def DrawnOk (Λ : LB) (P : Program) (cx : Cx) : Prop :=
  ∀ (ro : Option Nat) (K : CallK), KSound Λ P K → ∀ (ops : Array Oper) (id : Nat) (Q : Exit → Act → World → Prop) (ρ : Rho) (F : Fr) (S : AS) (w : World) (a : Act), R Λ ρ S w → FRel ρ F a →
    (runDrawn cx K ops.toList F S).All (fun r => ∀ ρ' e a' w', ExTo ρ' (exOf r.1) e → R Λ ρ' r.2.2 w' → FRel ρ' r.2.1 a' → Kp ρ S w ρ' r.2.2 w' → Q e a' w') → (Code.region id ops true).wpIn (GF ro) 0 P Q a w

/-- What is asked of code's ends. -/
def EndsOk (Λ : LB) (ρ : Rho) (S : AS) (w : World) (Q : Exit → Act → World → Prop) (o : Out) : Prop :=
  ∀ ρ' e a' w', ExTo ρ' o.ex e → R Λ ρ' o.S w' → FRel ρ' o.F a' → Kp ρ S w ρ' o.S w' → Q e a' w'
/-- Code at a fuel. -/
def CodeOk (Λ : LB) (P : Program) (cx : Cx) (n : Nat) : Prop :=
  ∀ (ro : Option Nat) (c : Code) (Q : Exit → Act → World → Prop) (ρ : Rho) (F : Fr) (S : AS) (w : World) (a : Act), (ro = none ∨ plainC c = true) → R Λ ρ S w → FRel ρ F a →
    (exec cx n c F S).All (EndsOk Λ ρ S w Q) → c.wpIn (GF ro) 0 P Q a w
def LoopOk (Λ : LB) (P : Program) (cx : Cx) (n : Nat) : Prop :=
  ∀ (ro : Option Nat) (b : Code) (Q : Exit → Act → World → Prop) (ρ : Rho) (F : Fr) (S : AS) (w : World) (a : Act), (ro = none ∨ plainC b = true) → R Λ ρ S w → FRel ρ F a →
    (exec cx n (.loop b) F S).All (EndsOk Λ ρ S w Q) → Code.roundsIn (GF ro) 0 P b Q n a w
theorem EndsOk.trans {ρ ρ' : Rho} {S S' : AS} {w w' : World} {Q : Exit → Act → World → Prop} {o : Out} (hk : Kp ρ S w ρ' S' w') (h : EndsOk Λ ρ S w Q o) : EndsOk Λ ρ' S' w' Q o :=
  fun ρ'' e a w'' h0 h1 h2 h3 => h ρ'' e a w'' h0 h1 h2 (hk.trans h3)
theorem FRel.srel {ρ : Rho} {F : Fr} {a : Act} (h : FRel ρ F a) : SRel ρ F a.tmps := ⟨h.slot, h.size⟩

theorem initF_rel {ρ : Rho} {as : List AV} {args : Array Value} (h : LRel ρ as args.toList) (n : Nat) :
    FRel ρ (initF as n) { tmps := args ++ Array.replicate (n - args.size) undef, defers := [] } := by
  have hl := h.length
  refine ⟨fun t => ?_, ?_, (rfl : ([] : List Deferred) = [])⟩
  · show VRel ρ (match (T.ofL as 0 .leaf).get t with | some v => v | none => .undef) _
    rw [get_ofL]
    by_cases ht : t < as.length
    · rw [if_pos ⟨Nat.zero_le _, by omega⟩]
      obtain ⟨x, hx⟩ : ∃ x, as[t]? = some x := ⟨as[t], List.getElem?_eq_getElem ht⟩
      obtain ⟨y, hy, hr⟩ := h.get hx
      have hta : t < args.size := by simp at hl; omega
      have e : (args ++ Array.replicate (n - args.size) undef).getD t undef = y := by
        rw [Array.getD_eq_getD_getElem?, Array.getElem?_append_left hta, ← Array.getElem?_toList, hy]; rfl
      rw [e, Nat.sub_zero, hx]; exact hr
    · rw [if_neg (by omega), get_leaf]
      have e : (args ++ Array.replicate (n - args.size) undef).getD t undef = undef := by
        rw [Array.getD_eq_getD_getElem?]
        rcases Nat.lt_or_ge t (args ++ Array.replicate (n - args.size) undef).size with h1 | h1
        · rw [Array.getElem?_append_right (by simp at hl; omega), Array.getElem?_replicate]
          split <;> rfl
        · rw [Array.getElem?_eq_none h1]; rfl
      rw [e]; exact undef_rel ρ
  · show _ = Nat.add (lenL as) (Nat.sub n (lenL as))
    rw [lenL_eq]
    simp at hl
    simp [hl]

theorem SRel.eval {ρ : Rho} {F : Fr} {tmps : Array Value} (h : SRel ρ F tmps) (t : Tmp) : VRel ρ (Am.eval F (.tmp t)) (tmps.getD t undef) := by rw [eval_slot]; exact h.slot t
theorem loadV_run {P : Program} {cx : Cx} (hcx : CxOk Λ P cx) {ρ : Rho} {S : AS} {w : World} (hR : R Λ ρ S w) {t : TypeId} {x v : AV} {x' : Value} (h : loadV cx S t x = some v) (hx : VRel ρ x x') :
    ∃ z, (do loadVar t (← asAddr x')).run P w = .ok z w ∧ VRel ρ v z := by
  unfold loadV at h
  cases x <;> simp only [reduceCtorEq] at h
  rename_i id g off lim
  simp only [VRel] at hx
  obtain ⟨pl, p1, p2, rfl⟩ := hx
  cases ha : aggOf cx t with
  | none => simp [ha] at h
  | some b =>
    cases b with
    | true =>
      simp only [ha] at h
      cases hs : szOf cx t with
      | none => simp [hs] at h
      | some n =>
        simp only [hs] at h
        cases hr : rd S id g off n lim with
        | none => simp [hr] at h
        | some cs =>
          simp only [hr, Option.some.injEq] at h
          subst h
          obtain ⟨arr, q1, q2, q3, q4, _⟩ := load_row (P := P) hR hr p1 p2
          exact ⟨.agg arr, by simp only [asAddr, loadVar, Sem.run_bind, Sem.run_pure, Result.andThen_ok, run_agg hcx ha, if_true, run_sz hcx hs, q1], by simp only [VRel]; exact ⟨arr, rfl, q3, q4⟩⟩
    | false =>
      simp only [ha] at h
      split at h
      · rename_i u hr
        simp only [Option.some.injEq] at h
        subst h
        obtain ⟨arr, q1, q2, q3, q4, q5, q6⟩ := load_row (P := P) hR hr p1 p2
        obtain ⟨z, hz, hz2⟩ := q6 0 (by omega)
        refine ⟨z, ?_, ?_⟩
        · simp only [Nat.add_zero] at hz
          simp only [asAddr, loadVar, Sem.run_bind, Sem.run_pure, Result.andThen_ok, run_agg hcx ha, Bool.false_eq_true, if_false, run_load, hz]
        · obtain ⟨y, hy, hr'⟩ := q3.get (i := 0) (x := u) rfl
          rw [hz2] at hy; cases hy; exact hr'
      · cases h

theorem resL_run {P : Program} {cx : Cx} (hcx : CxOk Λ P cx) {ρ : Rho} {S : AS} {w : World} (hR : R Λ ρ S w) {F : Fr} {tmps : Array Value} (hF : SRel ρ F tmps) (f : ResultVar → Sem Value) (hf : ∀ t, f (.tmp t) = pure (tmps.getD t undef))
    (hf2 : ∀ t ty, f (.cell t ty) = (do loadVar ty (← asAddr (tmps.getD t undef)))) : ∀ (l : List ResultVar) (vs : List AV), resL cx F S l = some vs →
    ∃ xs : List Value, (l.mapM f).run P w = .ok xs w ∧ LRel ρ vs xs := by
  intro l
  induction l with
  | nil => intro vs h; have h' : some [] = some vs := h; cases h'; exact ⟨[], rfl, LRel.nil⟩
  | cons r l ih =>
    intro vs h
    have h' : resStep cx F S r (resL cx F S l) = some vs := h
    unfold resStep at h'
    cases hl : resL cx F S l with
    | none => rw [hl] at h'; cases h'
    | some vs' =>
      rw [hl] at h'
      obtain ⟨xs, h1, h2⟩ := ih vs' hl
      cases r with
      | tmp t =>
        cases h'
        refine ⟨tmps.getD t undef :: xs, ?_, LRel.cons (hF.eval t) h2⟩
        simp only [List.mapM_cons, Sem.run_bind, hf, Sem.run_pure, Result.andThen_ok, h1]
      | cell t ty =>
        simp only [] at h'
        cases hv : loadV cx S ty (eval F (.tmp t)) with
        | none => rw [hv] at h'; cases h'
        | some v =>
          rw [hv] at h'
          cases h'
          obtain ⟨z, r1, r2⟩ := loadV_run (P := P) hcx hR hv (hF.eval t)
          refine ⟨z :: xs, ?_, LRel.cons r2 h2⟩
          have r1' : (f (.cell t ty)).run P w = .ok z w := by rw [hf2]; exact r1
          simp only [List.mapM_cons, Sem.run_bind, r1', Sem.run_pure, Result.andThen_ok, h1]

theorem resultsV_run {P : Program} {cx : Cx} (hcx : CxOk Λ P cx) {ρ : Rho} {S : AS} {w : World} (hR : R Λ ρ S w) {F : Fr} {tmps : Array Value} {fn : Func} {v : AV} (hF : SRel ρ F tmps) (h : resultsV cx fn F S = some v) :
    ∃ x, (results fn tmps).run P w = .ok x w ∧ VRel ρ v x := by
  unfold resultsV at h
  obtain ⟨f, hf, hf2, hres⟩ : ∃ f : ResultVar → Sem Value, (∀ t, f (.tmp t) = pure (tmps.getD t undef)) ∧ (∀ t ty, f (.cell t ty) = (do loadVar ty (← asAddr (tmps.getD t undef)))) ∧
      results fn tmps = (do let vs ← fn.results.mapM f; pure (if h : vs.size = 1 then vs[0] else .tuple vs)) := by
    refine ⟨_, ?_, ?_, rfl⟩
    · intro t; rfl
    · intro t ty; rfl
  rw [hres, Array.mapM_eq_mapM_toList]
  split at h
  · rename_i u hr
    cases h
    obtain ⟨xs, h1, h2⟩ := resL_run (P := P) hcx hR hF f hf hf2 _ _ hr
    simp only [LRel] at h2
    obtain ⟨y, ys, rfl, hy, rfl⟩ := h2
    refine ⟨y, ?_, hy⟩
    simp only [Sem.run_bind, Sem.run_map]
    rw [h1]
    rfl
  · rename_i vs hne hr
    cases h
    obtain ⟨xs, h1, h2⟩ := resL_run (P := P) hcx hR hF f hf hf2 _ _ hr
    refine ⟨.tuple xs.toArray, ?_, by simp only [VRel]; exact ⟨_, rfl, by simpa using h2⟩⟩
    have hl := h2.length
    have hn1 : xs.length ≠ 1 := by
      intro e
      cases vs with
      | nil => simp at hl; omega
      | cons v vs => cases vs with
        | nil => exact hne v rfl
        | cons _ _ => simp at hl; omega
    simp only [Sem.run_bind, Sem.run_map]
    rw [h1]
    simp only [Result.andThen_ok, Sem.run_pure]
    rw [dif_neg (by simpa using hn1)]
  · cases h

/-! ### A round of a range over a function -/
theorem putL_nil (F : Fr) (as : List AV) : putL F [] as = (match as with | [] => some F | _ => none) := by cases as <;> rfl
theorem putL_cons (F : Fr) (p : Tmp) (ps : List Tmp) (as : List AV) : putL F (p :: ps) as = (match as with | [] => none | a :: as => putL (putD F (some p) a) ps as) := by cases as <;> rfl
theorem putL_rel {ρ : Rho} : ∀ (ps : List Tmp) (as : List AV) (vs : List Value) (F F1 : Fr) (tmps : Array Value), putL F ps as = some F1 → LRel ρ as vs → FRel ρ F ⟨tmps, []⟩ →
    vs.length = ps.length ∧ FRel ρ F1 ⟨(ps.zip vs).foldl (fun tmps (t, a) => tmps.setIfInBounds t a) tmps, []⟩
  | [], as, vs, F, F1, tmps, h, hl, hF => by
    rw [putL_nil] at h
    cases as with
    | cons a as => cases h
    | nil =>
      cases h
      simp only [LRel] at hl
      subst hl
      exact ⟨rfl, hF⟩
  | p :: ps, as, vs, F, F1, tmps, h, hl, hF => by
    rw [putL_cons] at h
    cases as with
    | nil => cases h
    | cons a as =>
      simp only [LRel] at hl
      obtain ⟨y, ys, rfl, h1, h2⟩ := hl
      obtain ⟨r1, r2⟩ := putL_rel ps as ys (putD F (some p) a) F1 (tmps.setIfInBounds p y) h h2 (hF.put (some p) h1)
      exact ⟨by simp [r1], r2⟩

/-- The loop's record, as it lies in the world. -/
theorem loop_at {ρ : Rho} {S : AS} {w : World} (hR : R Λ ρ S w) {id : Nat} {st : LoopState} {j : Option Code} {F : Fr} {ps : Array Tmp} {x y : Code} {pl : Pl} (hp : ρ id 0 = some pl) (ho : S.h.get id = some (.oth (.loop st j F ps x y))) :
    ∃ fn tmps d, w.heap[pl.b]? = some (.loop { state := st, pending := j, fn := fn, tmps := tmps, params := ps, assign := x, body := y, defers := d }) ∧ SRel ρ F tmps ∧ plainC x = true ∧ plainC y = true ∧ pl.base = 0 := by
  obtain ⟨pl', o, q1, q2, ⟨fn, tmps, d, rfl, q4, q5, q6⟩, q7⟩ := hR.objs id _ ho
  rw [hp] at q1; cases q1
  exact ⟨fn, tmps, d, q2, q4, q5, q6, q7⟩
theorem putObj_but (w : World) {b : Nat} {o o' : Obj} (h : w.heap[b]? = some o') : But b w (w.putObj b o) ∧ (w.putObj b o).heap[b]? = some o := by
  have hlt : b < w.heap.size := (Array.getElem?_eq_some_iff.1 h).1
  exact ⟨⟨⟨rfl, rfl, rfl⟩, by simp, fun k hk => World.putObj_heap_other hk⟩, World.putObj_heap_same hlt⟩
/-- The record turns. -/
theorem R.setLoop {ρ : Rho} {S : AS} {w : World} (hR : R Λ ρ S w) {id : Nat} {st st' : LoopState} {j j' : Option Code} {F : Fr} {ps : Array Tmp} {x y : Code} {pl : Pl} (hp : ρ id 0 = some pl) (ho : S.h.get id = some (.oth (.loop st j F ps x y)))
    {fn : FuncId} {tmps : Array Value} {d : Nat} (hw : w.heap[pl.b]? = some (.loop { state := st, pending := j, fn := fn, tmps := tmps, params := ps, assign := x, body := y, defers := d })) :
    R Λ ρ (setO S id (.loop st' j' F ps x y)) (w.putObj pl.b (.loop { state := st', pending := j', fn := fn, tmps := tmps, params := ps, assign := x, body := y, defers := d })) ∧
      Kp ρ S w ρ (setO S id (.loop st' j' F ps x y)) (w.putObj pl.b (.loop { state := st', pending := j', fn := fn, tmps := tmps, params := ps, assign := x, body := y, defers := d })) := by
  obtain ⟨fn', tmps', d', e1, e2, e3, e4, e5⟩ := loop_at hR hp ho
  rw [hw] at e1; cases e1
  obtain ⟨b1, b2⟩ := putObj_but w (o := .loop { state := st', pending := j', fn := fn, tmps := tmps, params := ps, assign := x, body := y, defers := d }) hw
  exact hR.setOth (x := .loop st' j' F ps x y) ho (by intro a b c d t e; cases e) hp b1 b2 ⟨fn, tmps, d, rfl, e2, e3, e4⟩ e5

theorem roundEnd_ok {P : Program} {ρ ρ' : Rho} {S S' : AS} {w w' : World} {id : Nat} {pl : Pl} {ex : Ex} {e : Exit} {a : Act} {Post : Ending → World → Prop} (hp : ρ' id 0 = some pl) (hR : R Λ ρ' S' w') (hk : Kp ρ S w ρ' S' w') (he : ExTo ρ' ex e)
    (h : (roundEnd id ex S').All (fun r => ∀ ρ' e w', RetOk ρ' r.1 e → R Λ ρ' r.2 w' → Kp ρ S w ρ' r.2 w' → Post e w')) : roundPost P pl.b Post e a w' := by
  unfold roundEnd at h
  split at h
  · rename_i st j F ps x y ho
    obtain ⟨fn, tmps, d, e1, _⟩ := loop_at hR hp ho
    have fin : ∀ (jump : Option Code) (v : Bool), jump.isNone = v → (∀ ρ'' e w'', RetOk ρ'' (.bool v) e → R Λ ρ'' (setO S' id (.loop (if jump.isNone then .ready else .done) jump F ps x y)) w'' → Kp ρ S w ρ'' (setO S' id (.loop (if jump.isNone then .ready else .done) jump F ps x y)) w'' → Post e w'') →
        ∃ u w'', (Instr.endRound pl.b jump).run P w' = .ok u w'' ∧ Post (.returned u) w'' := by
      intro jump v hv hpost
      obtain ⟨t1, t2⟩ := hR.setLoop (st' := if jump.isNone then .ready else .done) (j' := jump) hp ho e1
      exact ⟨_, _, run_endRound jump e1, hpost ρ' _ _ (by rw [hv]; exact RetOk.of (by simp [VRel])) t1 (hk.trans t2)⟩
    cases ex with
    | normal => cases he; exact fin none true rfl h.1
    | ret => cases he; exact fin (some .ret) false rfl h.1
    | exit i => cases he; exact fin (some (.exit i)) false rfl h.1
    | goto l => cases he; exact fin (some (.goto l)) false rfl h.1
    | pan v => exact h.elim
  · exact h.elim

theorem roundF_ok {P : Program} {cx : Cx} {n : Nat} (hc : CodeOk Λ P cx n) {ρ : Rho} {id : Nat} {as : List AV} {S : AS} {w : World} {args : Array Value} {Post : Ending → World → Prop}
    (h : (roundF (exec cx n) id as S).All (fun r => ∀ ρ' e w', RetOk ρ' r.1 e → R Λ ρ' r.2 w' → Kp ρ S w ρ' r.2 w' → Post e w')) (hR : R Λ ρ S w) (hl : LRel ρ as args.toList) : TgtOk P ρ args w Post (.round id) := by
  intro pl hp
  unfold roundF at h
  split at h
  · rename_i j F ps x y ho
    obtain ⟨fn, tmps, d, e1, e2, e3, e4, e5⟩ := loop_at hR hp ho
    cases hput : putL ⟨F.t, F.n, []⟩ ps.toList as with
    | none => rw [hput] at h; exact h.elim
    | some F1 =>
      rw [hput] at h
      simp only [] at h
      obtain ⟨r1, r2⟩ := putL_rel (ρ := ρ) ps.toList as args.toList ⟨F.t, F.n, []⟩ F1 tmps hput hl ⟨e2.slot, e2.size, (rfl : ([] : List Deferred) = [])⟩
      have hsz : args.size = ps.size := by simpa using r1
      refine ⟨fn, _, x, y, run_yield e1 hsz, roundIn_of_wpIn trivial ?_⟩
      have hfold : (ps.zip args).foldl (fun tmps (t, a) => tmps.setIfInBounds t a) tmps = (ps.toList.zip args.toList).foldl (fun tmps (t, a) => tmps.setIfInBounds t a) tmps := by
        rw [← Array.foldl_toList, Array.toList_zip]
      rw [hfold]
      refine hc (some pl.b) x _ ρ F1 S w _ (.inr e3) hR r2 ((Res.all_bind h).mono fun o ho' ρ' e a' w' k0 k1 k2 k3 => ?_)
      cases hex : o.ex with
      | normal =>
        rw [hex] at ho' k0
        cases k0
        simp only [] at ho'
        split at ho'
        · rename_i j' F' ps' x' y' ho2
          have hp' := k3.ext id 0 pl hp
          obtain ⟨fn', tmps', d', f1, f2, f3, f4, f5⟩ := loop_at k1 hp' ho2
          obtain ⟨t1, t2⟩ := k1.setLoop (st' := .busy) (j' := j') hp' ho2 f1
          refine ⟨_, run_beginRound f1 rfl, ?_⟩
          -- the body is the record's of old
          have hbody : y' = y' := rfl
          refine hc (some pl.b) y _ ρ' o.F _ _ _ (.inr e4) t1 k2 ((Res.all_bind ho').mono fun o2 ho2' ρ'' e2 a2 w2 m0 m1 m2 m3 => ?_)
          exact roundEnd_ok (m3.ext id 0 pl hp') m1 (k3.trans (t2.trans m3)) m0 ho2'
        · exact ho'.elim
      | exit i => rw [hex] at ho'; exact ho'.elim
      | ret => rw [hex] at ho'; exact ho'.elim
      | goto l => rw [hex] at ho'; exact ho'.elim
      | pan v => rw [hex] at ho'; exact ho'.elim
  · exact h.elim

end Go.Am
