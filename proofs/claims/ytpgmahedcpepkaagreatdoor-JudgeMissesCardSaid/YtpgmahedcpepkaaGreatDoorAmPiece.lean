/-
  The abstract machine: a long run in pieces. Behind each piece the memory that is still wanted is kept, and no other.
-/
import Derived.Test.YtpgmahedcpepkaaGreatDoorAmBool
namespace Go.Am
open Go Go.RowKit
variable {Λ : LB} {P : Program}

/-! ### What code comes to -/
def Goes (Λ : LB) (P : Program) (c : Code) (F : Fr) (S : AS) (o : Out) : Prop :=
  ∀ (Q : Exit → Act → World → Prop) (ρ : Rho) (w : World) (a : Act), R Λ ρ S w → FRel ρ F a → EndsOk Λ ρ S w Q o → c.wpIn (GF none) 0 P Q a w
/-- .. a loop, within so many rounds. -/
def GoesR (Λ : LB) (P : Program) (n : Nat) (b : Code) (F : Fr) (S : AS) (o : Out) : Prop :=
  ∀ (Q : Exit → Act → World → Prop) (ρ : Rho) (w : World) (a : Act), R Λ ρ S w → FRel ρ F a → EndsOk Λ ρ S w Q o → Code.roundsIn (GF none) 0 P b Q n a w
theorem goes_exec {cx : Cx} (hcx : CxOk Λ P cx) (hd : DrawnOk Λ P cx) {n : Nat} {c : Code} {F : Fr} {S : AS} {o : Out} (h : exec cx n c F S = .ok o []) : Goes Λ P c F S o :=
  fun Q ρ w a hR hF hE => (code_ok hcx hd n).1 none c Q ρ F S w a (.inl rfl) hR hF (by rw [h]; exact ⟨hE, fun y hy => by cases hy⟩)

/-! ### What is not wanted any more is let go -/
noncomputable def slotOf (F : Fr) (t : Nat) : AV := match F.t.get t with | some v => v | none => .undef
structure Cut (o o' : Out) : Prop where
  ex : o'.ex = o.ex
  next : o'.S.next = o.S.next
  mem : ∀ id x, o'.S.h.get id = some x → o.S.h.get id = some x
  n : o'.F.n = o.F.n
  ds : o'.F.ds = o.F.ds
  slot : ∀ t, slotOf o'.F t = .top ∨ slotOf o'.F t = slotOf o.F t ∨ (o.F.n ≤ t ∧ slotOf o'.F t = .undef)
theorem R.cutTo {ρ : Rho} {S S' : AS} {w : World} (h : R Λ ρ S w) (hn : S'.next = S.next) (hm : ∀ id x, S'.h.get id = some x → S.h.get id = some x) : R Λ ρ S' w ∧ Kp ρ S w ρ S' w := by
  have mine : ∀ b, Mine ρ S' b → Mine ρ S b := fun b ⟨i, o, g, pl, h1, h2, h3⟩ => ⟨i, o, g, pl, hm i o h1, h2, h3⟩
  have wrt : ∀ b, Wrt ρ S' b → Wrt ρ S b := fun b ⟨i, o, g, pl, h1, hz, h2, h3⟩ => ⟨i, o, g, pl, hm i o h1, hz, h2, h3⟩
  refine ⟨⟨fun id o ho => h.objs id o (hm id o ho), fun id o ho => by rw [hn]; exact h.dom id o (hm id o ho), fun id g hg => h.fresh id g (by rw [← hn]; exact hg), fun id c l t f ty hi => h.topg id c l t f ty (hm id _ hi),
      fun id o g pl ho => h.lt id o g pl (hm id o ho), fun i j o oj g gj pl plj hij hi hj => h.apart i j o oj g gj pl plj hij (hm i o hi) (hm j oj hj), h.start, fun b hb => ⟨(h.base b hb).1, (h.base b hb).2.1, fun hk => (h.base b hb).2.2 (wrt b hk)⟩⟩,
    ⟨Ext.refl _, rfl, rfl, rfl, Nat.le_refl _, fun _ _ _ => rfl, fun b hb => .inl (mine b hb), fun b hb => .inl (wrt b hb), Nat.le_of_eq hn.symm, fun id g _ hs => ⟨rfl, ?_⟩⟩⟩
  cases hx : S'.h.get id with
  | none => rfl
  | some x => rw [hm id x hx] at hs; cases hs
theorem FRel.cut {ρ : Rho} {F F' : Fr} {a : Act} (h : FRel ρ F a) (hn : F'.n = F.n) (hd : F'.ds = F.ds) (hs : ∀ t, slotOf F' t = .top ∨ slotOf F' t = slotOf F t ∨ (F.n ≤ t ∧ slotOf F' t = .undef)) : FRel ρ F' a := by
  refine ⟨fun t => ?_, h.size.trans hn.symm, by rw [hd]; exact h.defers⟩
  show VRel ρ (slotOf F' t) _
  rcases hs t with h1 | h1 | ⟨h1, h2⟩
  · rw [h1]; simp only [VRel]
  · rw [h1]; exact h.slot t
  · rw [h2, Array.getD_eq_getD_getElem?, Array.getElem?_eq_none (by rw [h.size]; exact h1)]
    exact undef_rel ρ
theorem goes_cut {c : Code} {F : Fr} {S : AS} {o o' : Out} (h : Goes Λ P c F S o) (k : Cut o o') : Goes Λ P c F S o' := by
  intro Q ρ w a hR hF hE
  refine h Q ρ w a hR hF fun ρ' e a' w' h0 h1 h2 h3 => ?_
  obtain ⟨r1, r2⟩ := h1.cutTo k.next k.mem
  exact hE ρ' e a' w' (by rw [k.ex]; exact h0) r1 (h2.cut k.n k.ds k.slot) (h3.trans r2)
theorem goes_from {c : Code} {o o' o2 : Out} (k : Cut o o') (h : Goes Λ P c o'.F o'.S o2) : Goes Λ P c o.F o.S o2 := by
  intro Q ρ w a hR hF hE
  obtain ⟨r1, r2⟩ := hR.cutTo k.next k.mem
  exact h Q ρ w a r1 (hF.cut k.n k.ds k.slot) (hE.trans r2)
theorem goesR_from {n : Nat} {c : Code} {o o' o2 : Out} (k : Cut o o') (h : GoesR Λ P n c o'.F o'.S o2) : GoesR Λ P n c o.F o.S o2 := by
  intro Q ρ w a hR hF hE
  obtain ⟨r1, r2⟩ := hR.cutTo k.next k.mem
  exact h Q ρ w a r1 (hF.cut k.n k.ds k.slot) (hE.trans r2)

/-! ### Pieces, joined -/
theorem goes_seq {x y : Code} {F : Fr} {S : AS} {o o2 : Out} (he : o.ex = .normal) (h : Goes Λ P x F S o) (k : Goes Λ P y o.F o.S o2) : Goes Λ P (.seq x y) F S o2 := by
  intro Q ρ w a hR hF hE
  refine wpIn_seq (h _ ρ w a hR hF fun ρ' e a' w' h0 h1 h2 h3 => ?_)
  rw [he] at h0
  cases h0
  exact k Q ρ' w' a' h1 h2 (hE.trans h3)
theorem goesR_step {n : Nat} {b : Code} {F : Fr} {S : AS} {o o2 : Out} (he : o.ex = .normal) (h : Goes Λ P b F S o) (k : GoesR Λ P n b o.F o.S o2) : GoesR Λ P (n + 1) b F S o2 := by
  intro Q ρ w a hR hF hE
  rw [roundsIn_succ]
  refine h _ ρ w a hR hF fun ρ' e a' w' h0 h1 h2 h3 => ?_
  rw [he] at h0
  cases h0
  exact k Q ρ' w' a' h1 h2 (hE.trans h3)
theorem goesR_exit {b : Code} {F F' : Fr} {S S' : AS} {i : Nat} (h : Goes Λ P b F S ⟨.exit i, F', S'⟩) : GoesR Λ P 1 b F S ⟨.exit i, F', S'⟩ := by
  intro Q ρ w a hR hF hE
  rw [roundsIn_succ]
  refine h _ ρ w a hR hF fun ρ' e a' w' h0 h1 h2 h3 => ?_
  cases h0
  exact hE ρ' (.exit i) a' w' rfl h1 h2 h3
theorem goes_loop {n : Nat} {b : Code} {F : Fr} {S : AS} {o : Out} (h : GoesR Λ P n b F S o) : Goes Λ P (.loop b) F S o :=
  fun Q ρ w a hR hF hE => wpIn_loop_rounds n (h Q ρ w a hR hF hE)
theorem goes_block {i : Nat} {b : Code} {F F' : Fr} {S S' : AS} (h : Goes Λ P b F S ⟨.exit i, F', S'⟩) : Goes Λ P (.block i b) F S ⟨.normal, F', S'⟩ := by
  intro Q ρ w a hR hF hE
  refine wpIn_block (h _ ρ w a hR hF fun ρ' e a' w' h0 h1 h2 h3 => ?_)
  cases h0
  show Exit.inBlock i Q (.exit i) a' w'
  simp only [Exit.inBlock, if_true]
  exact hE ρ' .normal a' w' rfl h1 h2 h3

/-! ### Runs of several pieces of code -/
noncomputable def onK (o : Out) (k : Fr → AS → Res Out) : Res Out := match o.ex with | .normal => k o.F o.S | _ => .err 4000
/-- So many parts at a sequence's head. -/
noncomputable def frontK (cx : Cx) (n k : Nat) : Code → Fr → AS → Res Out :=
  Nat.rec (motive := fun _ => Code → Fr → AS → Res Out) (fun _ F S => .ok ⟨.normal, F, S⟩ [])
    (fun _ ih c F S => match c with | .seq a b => Res.bind (Res.sole (execK cx n a F S)) fun o => onK o (ih b) | _ => .err 4001) k
def tailC (k : Nat) : Code → Code := Nat.rec (motive := fun _ => Code → Code) (fun c => c) (fun _ ih c => match c with | .seq _ b => ih b | c => c) k
/-- So many rounds of a loop. -/
noncomputable def roundsK (cx : Cx) (n : Nat) (b : Code) (k : Nat) : Fr → AS → Res Out :=
  Nat.rec (motive := fun _ => Fr → AS → Res Out) (fun F S => .ok ⟨.normal, F, S⟩ []) (fun _ ih F S => Res.bind (Res.sole (execK cx n b F S)) fun o => onK o ih) k
theorem step_of {cx : Cx} {n : Nat} {c : Code} {F : Fr} {S : AS} {k : Fr → AS → Res Out} {o : Out} (h : Res.bind (Res.sole (execK cx n c F S)) (fun o => onK o k) = .ok o []) :
    ∃ q, exec cx n c F S = .ok q [] ∧ q.ex = .normal ∧ k q.F q.S = .ok o [] := by
  rw [execK_eq] at h
  cases hs : Res.sole (exec cx n c F S) with
  | err m => rw [hs] at h; cases h
  | ok q qs =>
    obtain ⟨h1, rfl⟩ := sole_ok hs
    rw [hs] at h
    have h2 : onK q k = .ok o [] := h
    obtain ⟨e, F', S'⟩ := q
    cases e <;> first | exact ⟨_, h1, rfl, h2⟩ | cases h2
theorem front_goes {cx : Cx} (hcx : CxOk Λ P cx) (hd : DrawnOk Λ P cx) {n : Nat} : ∀ (k : Nat) (c : Code) (F : Fr) (S : AS) (o o2 : Out), frontK cx n k c F S = .ok o [] → Goes Λ P (tailC k c) o.F o.S o2 → Goes Λ P c F S o2
  | 0, c, F, S, o, o2, h, g => by cases h; exact g
  | k + 1, c, F, S, o, o2, h, g => by
    cases c with
    | seq a b =>
      obtain ⟨q, h1, h2, h3⟩ := step_of (k := frontK cx n k b) h
      exact goes_seq h2 (goes_exec hcx hd h1) (front_goes hcx hd k b q.F q.S o o2 h3 g)
    | _ => cases h
theorem rounds_goes {cx : Cx} (hcx : CxOk Λ P cx) (hd : DrawnOk Λ P cx) {n m : Nat} {b : Code} : ∀ (k : Nat) (F : Fr) (S : AS) (o o2 : Out), roundsK cx n b k F S = .ok o [] → GoesR Λ P m b o.F o.S o2 → GoesR Λ P (m + k) b F S o2
  | 0, F, S, o, o2, h, g => by cases h; exact g
  | k + 1, F, S, o, o2, h, g => by
    obtain ⟨q, h1, h2, h3⟩ := step_of (k := roundsK cx n b k) h
    exact goesR_step h2 (goes_exec hcx hd h1) (rounds_goes hcx hd k q.F q.S o o2 h3 g)

/-! ### A run's outcome, held against what is written down -/
noncomputable def frL (vs : List AV) : Fr := ⟨T.ofL vs 0 .leaf, lenL vs, []⟩
noncomputable def asL (es : List (Nat × AObj)) (next : Nat) : AS := ⟨es.foldl (fun t e => t.set e.1 e.2) .leaf, next⟩
noncomputable def entOk (S : AS) (e : Nat × AObj) : Bool := match S.h.get e.1 with | some x => sameO x e.2 | none => false
noncomputable def slotOk (F : Fr) (t : Nat) (v : AV) : Bool := match v with | .top => true | v => sameVF 12 (slotOf F t) v
noncomputable def slotsOk (F : Fr) (vs : List AV) : Nat → Bool := List.rec (motive := fun _ => Nat → Bool) (fun _ => true) (fun v _ ih t => cond (slotOk F t v) (ih (Nat.succ t)) false) vs
/-- How it ended, by a number. -/
def exN (n : Nat) : Ex := match n with | 0 => .normal | 1 => .ret | n + 2 => .exit n
def exOk (e : Ex) (n : Nat) : Bool := match e with | .normal => Nat.beq n 0 | .ret => Nat.beq n 1 | .exit i => Nat.beq n (i + 2) | _ => false
noncomputable def pieceB (r : Res Out) (e : Nat) (vs : List AV) (es : List (Nat × AObj)) (next : Nat) : Bool :=
  match r with
  | .ok o [] => match o.F.ds with
    | [] => exOk o.ex e && Nat.beq o.S.next next && Nat.beq o.F.n (lenL vs) && allL (entOk o.S) es && slotsOk o.F vs 0
    | _ => false
  | _ => false
theorem exOk_eq {e : Ex} {n : Nat} (h : exOk e n = true) : exN n = e := by
  cases e <;> simp only [exOk, Bool.false_eq_true] at h <;> (have := Nat.eq_of_beq_eq_true h; subst this; rfl)
theorem slotsOk_at {F : Fr} : ∀ (vs : List AV) (t i : Nat) (v : AV), slotsOk F vs t = true → vs[i]? = some v → v = .top ∨ slotOf F (t + i) = v
  | [], t, i, v, _, hi => by simp at hi
  | x :: vs, t, i, v, h, hi => by
    have h' : cond (slotOk F t x) (slotsOk F vs (t + 1)) false = true := h
    cases hx : slotOk F t x with
    | false => rw [hx] at h'; cases h'
    | true =>
      rw [hx] at h'
      cases i with
      | zero =>
        simp at hi
        subst hi
        unfold slotOk at hx
        split at hx
        · exact .inl rfl
        · exact .inr (sameVF_eq _ _ _ hx)
      | succ i =>
        have := slotsOk_at vs (t + 1) i v h' (by simpa using hi)
        rw [show t + (i + 1) = t + 1 + i by omega]
        exact this
/-- What was written down is a cut of what came. -/
theorem piece_cut {r : Res Out} {e : Nat} {vs : List AV} {es : List (Nat × AObj)} {next : Nat} (h : true = pieceB r e vs es next) :
    ∃ o, r = .ok o [] ∧ Cut o ⟨exN e, frL vs, asL es next⟩ := by
  have h := h.symm
  unfold pieceB at h
  split at h
  · rename_i o _
    split at h
    · rename_i hds
      simp only [Bool.and_eq_true, allL_eq, List.all_eq_true] at h
      obtain ⟨⟨⟨⟨h1, h2⟩, h3⟩, h4⟩, h5⟩ := h
      have hn := Nat.eq_of_beq_eq_true h3
      rw [lenL_eq] at hn
      refine ⟨o, rfl, ⟨exOk_eq h1, (Nat.eq_of_beq_eq_true h2).symm, fun id x hx => ?_, (Nat.eq_of_beq_eq_true h3).symm, hds.symm, fun t => ?_⟩⟩
      · rcases foldl_get es .leaf id x hx with h6 | h6
        · cases h6
        · have h7 := h4 _ h6
          unfold entOk at h7
          simp only [] at h7
          cases hg : o.S.h.get id with
          | none => rw [hg] at h7; cases h7
          | some y => rw [hg] at h7; rw [sameO_eq h7]
      · have hsl : slotOf (frL vs) t = (vs[t]?).getD .undef := by
          unfold slotOf frL
          rw [get_ofL]
          by_cases ht : t < vs.length
          · rw [if_pos ⟨Nat.zero_le _, by omega⟩, Nat.sub_zero, List.getElem?_eq_getElem ht]; rfl
          · rw [if_neg (by omega), List.getElem?_eq_none (by omega)]; rfl
        rcases Nat.lt_or_ge t vs.length with ht | ht
        · have hv : vs[t]? = some vs[t] := List.getElem?_eq_getElem ht
          have := slotsOk_at vs 0 t vs[t] h5 hv
          show slotOf (frL vs) t = _ ∨ slotOf (frL vs) t = _ ∨ _
          rw [hsl, hv]
          rcases this with h6 | h6
          · exact .inl h6
          · rw [Nat.zero_add] at h6
            exact .inr (.inl h6.symm)
        · refine .inr (.inr ⟨by rw [hn]; exact ht, ?_⟩)
          show slotOf (frL vs) t = _
          rw [hsl, List.getElem?_eq_none ht]; rfl
    · cases h
  · cases h

/-! ### Pieces that the kernel has run -/
theorem front_piece {cx : Cx} (hcx : CxOk Λ P cx) (hd : DrawnOk Λ P cx) {n k : Nat} {c : Code} {F : Fr} {S : AS} {o2 : Out} {vs : List AV} {es : List (Nat × AObj)} {next : Nat} (h : true = pieceB (frontK cx n k c F S) 0 vs es next)
    (g : Goes Λ P (tailC k c) (frL vs) (asL es next) o2) : Goes Λ P c F S o2 := by
  obtain ⟨o, h1, h2⟩ := piece_cut h
  exact front_goes hcx hd k c F S o o2 h1 (goes_from h2 g)
theorem rounds_piece {cx : Cx} (hcx : CxOk Λ P cx) (hd : DrawnOk Λ P cx) {n m k : Nat} {b : Code} {F : Fr} {S : AS} {o2 : Out} {vs : List AV} {es : List (Nat × AObj)} {next : Nat} (h : true = pieceB (roundsK cx n b k F S) 0 vs es next)
    (g : GoesR Λ P m b (frL vs) (asL es next) o2) : GoesR Λ P (m + k) b F S o2 := by
  obtain ⟨o, h1, h2⟩ := piece_cut h
  exact rounds_goes hcx hd k F S o o2 h1 (goesR_from h2 g)
theorem exec_piece {cx : Cx} (hcx : CxOk Λ P cx) (hd : DrawnOk Λ P cx) {n e : Nat} {c : Code} {F : Fr} {S : AS} {vs : List AV} {es : List (Nat × AObj)} {next : Nat} (h : true = pieceB (execK cx n c F S) e vs es next) :
    Goes Λ P c F S ⟨exN e, frL vs, asL es next⟩ := by
  obtain ⟨o, h1, h2⟩ := piece_cut h
  rw [execK_eq] at h1
  exact goes_cut (goes_exec hcx hd h1) h2
/-- Parts of code. -/
def leftC (c : Code) : Code := match c with | .seq a _ => a | c => c
def rightC (c : Code) : Code := match c with | .seq _ b => b | c => c
def innerC (c : Code) : Code := match c with | .block _ b => b | .loop b => b | c => c

/-! ### The whole -/
theorem goes_call {cx : Cx} (hcx : CxOk Λ P cx) (hd : DrawnOk Λ P cx) {f : FuncId} {fn : Func} {c : Code} {F' : Fr} {S' : AS} {b : Bool} (hf : cx.fns.get f = some fn) (hb : fn.body = some c)
    (h : Goes Λ P c (initF [] fn.ntmps) ⟨.leaf, 0⟩ ⟨.ret, F', S'⟩) (hds : F'.ds = []) (hr : resultsV cx fn F' S' = some (.bool b))
    (w : World) (hz : Λ.w.heap.size ≤ w.heap.size) (hB : ∀ b, Λ.B b → b < Λ.w.heap.size ∧ w.heap[b]? = Λ.w.heap[b]?) :
    Calls P f #[] w fun e w' => e = .returned (.bool b) ∧ Below w.heap.size w w' := by
  have hfn := hcx.fns f fn hf
  have hc := (code_ok hcx hd 0).1
  refine callsIn_wide.1 (callsIn_of_wp_marks (n := 0) hfn hb trivial ?_)
  refine h _ (fun _ _ => none) w _ (empty_R w hz hB) (initF_rel (args := #[]) (by simp [LRel]) fn.ntmps) ?_
  intro ρ' e a' w' k0 h1 h2 h3
  cases k0
  refine leaveL_ok (F := F') hcx hc F'.ds a'.defers ρ' S' .ret _ w' h1 h2.srel h2.defers rfl ?_
  rw [hds]
  show (match resultsV cx fn F' S' with
    | some v => (.ok (v, S') [] : Res (AV × AS))
    | none => .err 2001).All _
  rw [hr]
  refine ⟨fun ρ'' e w'' j0 j1 j2 => ?_, fun y hy => by cases hy⟩
  obtain ⟨y, rfl, hy⟩ := j0
  have hy' : y = .bool b := by simpa [VRel] using hy
  have hk := h3.trans j2
  refine ⟨by rw [hy'], hk.os, hk.tape, hk.output, hk.size, fun k hk' => hk.keep k hk' ?_⟩
  rintro ⟨i, o, g, pl, ho, _⟩
  cases ho
end Go.Am
