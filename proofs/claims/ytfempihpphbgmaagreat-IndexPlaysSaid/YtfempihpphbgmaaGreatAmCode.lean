/-
  The abstract machine against the model: code, calls.
-/
import Derived.Test.YtfempihpphbgmaaGreatAmWp
import Derived.LoopNIn
import Derived.RecoverIn
import Derived.RangeFuncLeaves
namespace Go.Am
open Go
variable {Λ : LB}
def DrawnOk (Λ : LB) (P : Program) (cx : Cx) : Prop :=
 ∀ (ro : Option Nat) (K : dH), Bi Λ P K → ∀ (ops : Array Oper) (id : Nat) (Q : Exit → Act → World → Prop) (ρ : aF) (F : Fr) (S : AS) (w : World) (a : Act), R Λ ρ S w → dL ρ F a →
  (cN cx K ops.toList F S).cR (fun r => ∀ ρ' a' w', R Λ ρ' r.2 w' → dL ρ' r.1 a' → Kp ρ S w ρ' r.2 w' → Q .normal a' w') → (Code.region id ops true).wpIn (GF ro) 0 P Q a w
def gF (Λ : LB) (ρ : aF) (S : AS) (w : World) (Q : Exit → Act → World → Prop) (o : Out) : Prop :=
 ∀ ρ' e a' w', ExTo ρ' o.ex e → R Λ ρ' o.S w' → dL ρ' o.F a' → Kp ρ S w ρ' o.S w' → Q e a' w'
def mJ (Λ : LB) (P : Program) (cx : Cx) (n : Nat) : Prop :=
 ∀ (ro : Option Nat) (c : Code) (Q : Exit → Act → World → Prop) (ρ : aF) (F : Fr) (S : AS) (w : World) (a : Act), (ro = none ∨ bZ c = true) → R Λ ρ S w → dL ρ F a →
  (exec cx n c F S).cR (gF Λ ρ S w Q) → c.wpIn (GF ro) 0 P Q a w
def LoopOk (Λ : LB) (P : Program) (cx : Cx) (n : Nat) : Prop :=
 ∀ (ro : Option Nat) (b : Code) (Q : Exit → Act → World → Prop) (ρ : aF) (F : Fr) (S : AS) (w : World) (a : Act), (ro = none ∨ bZ b = true) → R Λ ρ S w → dL ρ F a →
  (exec cx n (.loop b) F S).cR (gF Λ ρ S w Q) → Code.roundsIn (GF ro) 0 P b Q n a w
theorem gF.trans {ρ ρ' : aF} {S S' : AS} {w w' : World} {Q : Exit → Act → World → Prop} {o : Out} (hk : Kp ρ S w ρ' S' w') (h : gF Λ ρ S w Q o) : gF Λ ρ' S' w' Q o :=
 fun ρ'' e a uS h0 h1 h2 h3 => h ρ'' e a uS h0 h1 h2 (hk.trans h3)
theorem dL.srel {ρ : aF} {F : Fr} {a : Act} (h : dL ρ F a) : wS ρ F a.tmps := ⟨h.slot, h.size⟩
theorem yR {ρ : aF} {as : List AV} {args : Array Value} (h : al ρ as args.toList) (n : Nat) :
  dL ρ (kx as n) { tmps := args ++ Array.replicate (n - args.size) undef, defers := [] } := by
 have hl := h.length;refine ⟨fun t => ?_, ?_, (rfl : ([] : List Deferred) = [])⟩
 ·show ah ρ (match (T.ofL as 0 .leaf).get t with | some v => v | none => .undef) _
  rw [uH]
  by_cases ht : t < as.length
  ·rw [if_pos ⟨Nat.zero_le _, by omega⟩]
   obtain ⟨x, hx⟩ : ∃ x, as[t]? = some x := ⟨as[t], List.getElem?_eq_getElem ht⟩;obtain ⟨y, hy, hr⟩ := h.get hx;have hta : t < args.size := by simp at hl; omega
   have e : (args ++ Array.replicate (n - args.size) undef).getD t undef = y := by
    rw [Array.getD_eq_getD_getElem?, Array.getElem?_append_left hta, ← Array.getElem?_toList, hy]; rfl
   rw [e, Nat.sub_zero, hx]; exact hr
  ·rw [if_neg (by omega), da]
   have e : (args ++ Array.replicate (n - args.size) undef).getD t undef = undef := by
    rw [Array.getD_eq_getD_getElem?];rcases Nat.lt_or_ge t (args ++ Array.replicate (n - args.size) undef).size with h1 | h1
    ·rw [Array.getElem?_append_right (by simp at hl; omega), Array.getElem?_replicate]
     split <;> rfl
    ·rw [Array.getElem?_eq_none h1]; rfl
   rw [e]; exact dN ρ
 ·show _ = Nat.add (cZ as) (Nat.sub n (cZ as))
  rw [aU];simp at hl;simp [hl]
theorem wS.eval {ρ : aF} {F : Fr} {tmps : Array Value} (h : wS ρ F tmps) (t : Tmp) : ah ρ (Am.eval F (.tmp t)) (tmps.getD t undef) := by rw [lM]; exact h.slot t
theorem loadV_run {P : Program} {cx : Cx} (av : cX Λ P cx) {ρ : aF} {S : AS} {w : World} (hR : R Λ ρ S w) {t : TypeId} {x v : AV} {x' : Value} (h : mO cx S t x = some v) (hx : ah ρ x x') :
  ∃ z, (do loadVar t (← asAddr x')).run P w = .ok z w ∧ ah ρ v z := by
 unfold mO at h
 cases x <;> simp only [reduceCtorEq] at h
 rename_i id g off lim;simp only [ah] at hx;obtain ⟨pl, p1, p2, rfl⟩ := hx
 cases ha : aE cx t with
 | none => simp [ha] at h
 | some b =>
  cases b with
  | true =>
   simp only [ha] at h
   cases hs : aw cx t with
   | none => simp [hs] at h
   | some n =>
    simp only [hs] at h
    cases hr : rd S id g off n lim with
    | none => simp [hr] at h
    | some cs =>
     simp only [hr, Option.some.injEq] at h;subst h;obtain ⟨arr, q1, q2, q3, q4, _⟩ := ji (P := P) hR hr p1 p2;exact ⟨.agg arr, by simp only [asAddr, loadVar, Sem.run_bind, Sem.run_pure, Result.andThen_ok, kq av ha, if_true, dv av hs, q1], by simp only [ah]; exact ⟨arr, rfl, q3, q4⟩⟩
  | false =>
   simp only [ha] at h
   split at h
   ·rename_i u hr
    simp only [Option.some.injEq] at h;subst h;obtain ⟨arr, q1, q2, q3, q4, q5, q6⟩ := ji (P := P) hR hr p1 p2;obtain ⟨z, hz, hz2⟩ := q6 0 (by omega)
    refine ⟨z, ?_, ?_⟩
    ·simp only [Nat.add_zero] at hz
     simp only [asAddr, loadVar, Sem.run_bind, Sem.run_pure, Result.andThen_ok, kq av ha, Bool.false_eq_true, if_false, run_load, hz]
    ·obtain ⟨y, hy, iq⟩ := q3.get (i := 0) (x := u) rfl
     rw [hz2] at hy; cases hy; exact iq
   ·cases h
theorem BY {P : Program} {cx : Cx} (av : cX Λ P cx) {ρ : aF} {S : AS} {w : World} (hR : R Λ ρ S w) {F : Fr} {tmps : Array Value} (hF : wS ρ F tmps) (f : ResultVar → Sem Value) (hf : ∀ t, f (.tmp t) = pure (tmps.getD t undef))
  (hf2 : ∀ t ty, f (.cell t ty) = (do loadVar ty (← asAddr (tmps.getD t undef)))) : ∀ (l : List ResultVar) (vs : List AV), jD cx F S l = some vs →
  ∃ xs : List Value, (l.mapM f).run P w = .ok xs w ∧ al ρ vs xs := by
 intro l
 induction l with
 | nil => intro vs h; have h' : some [] = some vs := h; cases h'; exact ⟨[], rfl, al.nil⟩
 | cons r l ih =>
  intro vs h;have h' : mf cx F S r (jD cx F S l) = some vs := h;unfold mf at h'
  cases hl : jD cx F S l with
  | none => rw [hl] at h'; cases h'
  | some vs' =>
   rw [hl] at h';obtain ⟨xs, h1, h2⟩ := ih vs' hl
   cases r with
   | tmp t =>
    cases h'
    refine ⟨tmps.getD t undef :: xs, ?_, al.cons (hF.eval t) h2⟩;simp only [List.mapM_cons, Sem.run_bind, hf, Sem.run_pure, Result.andThen_ok, h1]
   | cell t ty =>
    simp only [] at h'
    cases hv : mO cx S ty (eval F (.tmp t)) with
    | none => rw [hv] at h'; cases h'
    | some v =>
     rw [hv] at h'
     cases h'
     obtain ⟨z, r1, r2⟩ := loadV_run (P := P) av hR hv (hF.eval t);refine ⟨z :: xs, ?_, al.cons r2 h2⟩;have r1' : (f (.cell t ty)).run P w = .ok z w := by rw [hf2]; exact r1
     simp only [List.mapM_cons, Sem.run_bind, r1', Sem.run_pure, Result.andThen_ok, h1]
theorem mb {P : Program} {cx : Cx} (av : cX Λ P cx) {ρ : aF} {S : AS} {w : World} (hR : R Λ ρ S w) {F : Fr} {tmps : Array Value} {fn : Func} {v : AV} (hF : wS ρ F tmps) (h : cO cx fn F S = some v) :
  ∃ x, (results fn tmps).run P w = .ok x w ∧ ah ρ v x := by
 unfold cO at h;obtain ⟨f, hf, hf2, sx⟩ : ∃ f : ResultVar → Sem Value, (∀ t, f (.tmp t) = pure (tmps.getD t undef)) ∧ (∀ t ty, f (.cell t ty) = (do loadVar ty (← asAddr (tmps.getD t undef)))) ∧
   results fn tmps = (do let vs ← fn.results.mapM f; pure (if h : vs.size = 1 then vs[0] else .tuple vs)) := by
  refine ⟨_, ?_, ?_, rfl⟩
  ·intro t; rfl
  ·intro t ty; rfl
 rw [sx, Array.mapM_eq_mapM_toList]
 split at h
 ·rename_i u hr
  cases h
  obtain ⟨xs, h1, h2⟩ := BY (P := P) av hR hF f hf hf2 _ _ hr;simp only [al] at h2;obtain ⟨y, ys, rfl, hy, rfl⟩ := h2;refine ⟨y, ?_, hy⟩;simp only [Sem.run_bind, Sem.run_map];rw [h1]
  rfl
 ·rename_i vs bO hr
  cases h
  obtain ⟨xs, h1, h2⟩ := BY (P := P) av hR hF f hf hf2 _ _ hr;refine ⟨.tuple xs.toArray, ?_, by simp only [ah]; exact ⟨_, rfl, by simpa using h2⟩⟩
  have hl := h2.length;have qV : xs.length ≠ 1 := by
   intro e
   cases vs with
   | nil => simp at hl; omega
   | cons v vs => cases vs with
    | nil => exact bO v rfl
    | cons _ _ => simp at hl; omega
  simp only [Sem.run_bind, Sem.run_map];rw [h1];simp only [Result.andThen_ok, Sem.run_pure];rw [dif_neg (by simpa using qV)]
 ·cases h
theorem putL_nil (F : Fr) (as : List AV) : zW F [] as = (match as with | [] => some F | _ => none) := by cases as <;> rfl
theorem putL_cons (F : Fr) (p : Tmp) (ps : List Tmp) (as : List AV) : zW F (p :: ps) as = (match as with | [] => none | a :: as => zW (bj F (some p) a) ps as) := by cases as <;> rfl
theorem B7 {ρ : aF} : ∀ (ps : List Tmp) (as : List AV) (vs : List Value) (F F1 : Fr) (tmps : Array Value), zW F ps as = some F1 → al ρ as vs → dL ρ F ⟨tmps, []⟩ →
  vs.length = ps.length ∧ dL ρ F1 ⟨(ps.zip vs).foldl (fun tmps (t, a) => tmps.setIfInBounds t a) tmps, []⟩
 | [], as, vs, F, F1, tmps, h, hl, hF => by
  rw [putL_nil] at h
  cases as with
  | cons a as => cases h
  | nil =>
   cases h
   simp only [al] at hl;subst hl;exact ⟨rfl, hF⟩
 | p :: ps, as, vs, F, F1, tmps, h, hl, hF => by
  rw [putL_cons] at h
  cases as with
  | nil => cases h
  | cons a as =>
   simp only [al] at hl;obtain ⟨y, ys, rfl, h1, h2⟩ := hl;obtain ⟨r1, r2⟩ := B7 ps as ys (bj F (some p) a) F1 (tmps.setIfInBounds p y) h h2 (hF.put (some p) h1);exact ⟨by simp [r1], r2⟩
theorem qS {ρ : aF} {S : AS} {w : World} (hR : R Λ ρ S w) {id : Nat} {st : LoopState} {j : Option Code} {F : Fr} {ps : Array Tmp} {x y : Code} {pl : Pl} (hp : ρ id 0 = some pl) (ho : S.h.get id = some (.dS (.loop st j F ps x y))) :
  ∃ fn tmps d, w.heap[pl.b]? = some (.loop { state := st, pending := j, fn := fn, tmps := tmps, params := ps, assign := x, body := y, defers := d }) ∧ wS ρ F tmps ∧ bZ x = true ∧ bZ y = true ∧ pl.base = 0 := by
 obtain ⟨cq, o, q1, q2, ⟨fn, tmps, d, rfl, q4, q5, q6⟩, q7⟩ := hR.dJ id _ ho;rw [hp] at q1; cases q1;exact ⟨fn, tmps, d, q2, q4, q5, q6, q7⟩
theorem vf (w : World) {b : Nat} {o o' : Obj} (h : w.heap[b]? = some o') : But b w (w.putObj b o) ∧ (w.putObj b o).heap[b]? = some o := by
 have aL : b < w.heap.size := (Array.getElem?_eq_some_iff.1 h).1;exact ⟨⟨⟨rfl, rfl, rfl⟩, by simp, fun k hk => World.putObj_heap_other hk⟩, World.putObj_heap_same aL⟩
theorem R.zO {ρ : aF} {S : AS} {w : World} (hR : R Λ ρ S w) {id : Nat} {st st' : LoopState} {j j' : Option Code} {F : Fr} {ps : Array Tmp} {x y : Code} {pl : Pl} (hp : ρ id 0 = some pl) (ho : S.h.get id = some (.dS (.loop st j F ps x y)))
  {fn : FuncId} {tmps : Array Value} {d : Nat} (hw : w.heap[pl.b]? = some (.loop { state := st, pending := j, fn := fn, tmps := tmps, params := ps, assign := x, body := y, defers := d })) :
  R Λ ρ (jT S id (.loop st' j' F ps x y)) (w.putObj pl.b (.loop { state := st', pending := j', fn := fn, tmps := tmps, params := ps, assign := x, body := y, defers := d })) ∧
   Kp ρ S w ρ (jT S id (.loop st' j' F ps x y)) (w.putObj pl.b (.loop { state := st', pending := j', fn := fn, tmps := tmps, params := ps, assign := x, body := y, defers := d })) := by
 obtain ⟨fn', tmps', d', e1, e2, e3, e4, e5⟩ := qS hR hp ho;rw [hw] at e1; cases e1;obtain ⟨b1, b2⟩ := vf w (o := .loop { state := st', pending := j', fn := fn, tmps := tmps, params := ps, assign := x, body := y, defers := d }) hw;exact hR.zN (x := .loop st' j' F ps x y) ho (by intro a b c d t e; cases e) hp b1 b2 ⟨fn, tmps, d, rfl, e2, e3, e4⟩ e5
theorem BT {P : Program} {ρ ρ' : aF} {S S' : AS} {w w' : World} {id : Nat} {pl : Pl} {ex : Ex} {e : Exit} {a : Act} {fo : Ending → World → Prop} (hp : ρ' id 0 = some pl) (hR : R Λ ρ' S' w') (hk : Kp ρ S w ρ' S' w') (he : ExTo ρ' ex e)
  (h : (jV id ex S').cR (fun r => ∀ ρ' e w', fh ρ' r.1 e → R Λ ρ' r.2 w' → Kp ρ S w ρ' r.2 w' → fo e w')) : roundPost P pl.b fo e a w' := by
 unfold jV at h
 split at h
 ·rename_i st j F ps x y ho
  obtain ⟨fn, tmps, d, e1, _⟩ := qS hR hp ho;have fin : ∀ (jump : Option Code) (v : Bool), jump.isNone = v → (∀ ρ'' e uS, fh ρ'' (.bool v) e → R Λ ρ'' (jT S' id (.loop (if jump.isNone then .ready else .done) jump F ps x y)) uS → Kp ρ S w ρ'' (jT S' id (.loop (if jump.isNone then .ready else .done) jump F ps x y)) uS → fo e uS) →
    ∃ u uS, (Instr.endRound pl.b jump).run P w' = .ok u uS ∧ fo (.returned u) uS := by
   intro jump v hv hpost;obtain ⟨t1, t2⟩ := hR.zO (st' := if jump.isNone then .ready else .done) (j' := jump) hp ho e1
   exact ⟨_, _, run_endRound jump e1, hpost ρ' _ _ (by rw [hv]; exact fh.of (by simp [ah])) t1 (hk.trans t2)⟩
  cases ex with
  | normal => cases he; exact fin none true rfl h.1
  | ret => cases he; exact fin (some .ret) false rfl h.1
  | exit i => cases he; exact fin (some (.exit i)) false rfl h.1
  | goto l => cases he; exact fin (some (.goto l)) false rfl h.1
  | ei v => exact h.elim
 ·exact h.elim
theorem roundF_ok {P : Program} {cx : Cx} {n : Nat} (hc : mJ Λ P cx n) {ρ : aF} {id : Nat} {as : List AV} {S : AS} {w : World} {args : Array Value} {fo : Ending → World → Prop}
  (h : (nv (exec cx n) id as S).cR (fun r => ∀ ρ' e w', fh ρ' r.1 e → R Λ ρ' r.2 w' → Kp ρ S w ρ' r.2 w' → fo e w')) (hR : R Λ ρ S w) (hl : al ρ as args.toList) : TgtOk P ρ args w fo (.round id) := by
 intro pl hp;unfold nv at h
 split at h
 ·rename_i j F ps x y ho
  obtain ⟨fn, tmps, d, e1, e2, e3, e4, e5⟩ := qS hR hp ho
  cases hput : zW ⟨F.t, F.n, []⟩ ps.toList as with
  | none => rw [hput] at h; exact h.elim
  | some F1 =>
   rw [hput] at h;simp only [] at h;obtain ⟨r1, r2⟩ := B7 (ρ := ρ) ps.toList as args.toList ⟨F.t, F.n, []⟩ F1 tmps hput hl ⟨e2.slot, e2.size, (rfl : ([] : List Deferred) = [])⟩;have fi : args.size = ps.size := by simpa using r1
   refine ⟨fn, _, x, y, run_yield e1 fi, roundIn_of_wpIn trivial ?_⟩;have hfold : (ps.zip args).foldl (fun tmps (t, a) => tmps.setIfInBounds t a) tmps = (ps.toList.zip args.toList).foldl (fun tmps (t, a) => tmps.setIfInBounds t a) tmps := by
    rw [← Array.foldl_toList, Array.toList_zip]
   rw [hfold];refine hc (some pl.b) x _ ρ F1 S w _ (.inr e3) hR r2 ((aq.all_bind h).mono fun o gR ρ' e a' w' k0 k1 k2 k3 => ?_)
   cases hex : o.ex with
   | normal =>
    rw [hex] at gR k0
    cases k0
    simp only [] at gR
    split at gR
    ·rename_i j' F' ps' x' y' qw
     have fR := k3.ext id 0 pl hp;obtain ⟨fn', tmps', d', f1, f2, f3, f4, f5⟩ := qS k1 fR qw;obtain ⟨t1, t2⟩ := k1.zO (st' := .busy) (j' := j') fR qw f1;refine ⟨_, run_beginRound f1 rfl, ?_⟩;have hbody : y' = y' := rfl;refine hc (some pl.b) y _ ρ' o.F _ _ _ (.inr e4) t1 k2 ((aq.all_bind gR).mono fun o2 ho2' ρ'' e2 a2 w2 m0 m1 m2 m3 => ?_)
     exact BT (m3.ext id 0 pl fR) m1 (k3.trans (t2.trans m3)) m0 ho2'
    ·exact gR.elim
   | exit i => rw [hex] at gR; exact gR.elim
   | ret => rw [hex] at gR; exact gR.elim
   | goto l => rw [hex] at gR; exact gR.elim
   | ei v => rw [hex] at gR; exact gR.elim
 ·exact h.elim
end Go.Am
