/-
  The abstract machine: a region that draws its order and leaves the memory as it is.
  The abstract machine: memory, as rules for simp.
  The abstract machine: whole numbers of which nothing is known, as symbols in memory; what a call leaves that gives a small number.
-/
import Derived.Test.YtpgmahedcpepkaaGreatDoorAmRules
import Derived.Test.YtpgmahedcpepkaaGreatDoorAmPlan
import Derived.Test.YtpgmahedcpepkaaGreatDoorAmCall
import Derived.Test.YtpgmahedcpepkaaGreatDoorAmDraws
namespace Go.Am
set_option linter.unusedSimpArgs false
open Go

/-! ### Values alike to themselves -/
def baseV : AV → Bool
  | .bool _ => true | .int .. => true | .str _ => true | .nilp => true | .ptr .. => true | .nils => true | .slice .. => true | .nilm => true | .map _ => true | .nilf => true | .niface => true
  | _ => false
def baseL : List AV → Bool
  | [] => true
  | x :: l => baseV x && baseL l
def okV : AV → Bool
  | .agg l => baseL l
  | .tuple l => baseL l
  | .iface _ v => baseV v
  | v => baseV v
theorem eqS_self : ∀ s : List Nat, eqS s s = true
  | [] => rfl
  | x :: l => by
    show cond (Nat.beq x x) (eqS l l) false = true
    rw [nbeq, eqS_self l]; simp
theorem kind_self (k : IntKind) : kindEq k k = true := by rw [kindEq_eq]; simp
theorem eqI_self (n : Int) : eqI n n = true := by rw [eqI_eq]; simp
theorem base_same (n : Nat) (v : AV) (h : baseV v = true) : sameVF (n + 1) v v = true := by
  cases v <;> simp only [baseV, Bool.false_eq_true] at h <;> try rfl
  · rename_i b; cases b <;> rfl
  · rename_i k m
    show (kindEq k k && eqI m m) = true
    rw [kind_self, eqI_self]; rfl
  · rename_i s; exact eqS_self s
  · rename_i a b c d
    show (Nat.beq a a && Nat.beq b b && Nat.beq c c && Nat.beq d d) = true
    simp [nbeq]
  · rename_i a b c d e f g
    cases g with
    | none =>
      show (Nat.beq a a && Nat.beq b b && Nat.beq c c && Nat.beq d d && Nat.beq e e && Nat.beq f f) = true
      simp [nbeq]
    | some g =>
      show (Nat.beq a a && Nat.beq b b && Nat.beq c c && Nat.beq d d && Nat.beq e e && Nat.beq f f && Nat.beq g g) = true
      simp [nbeq]
  · rename_i a
    show Nat.beq a a = true
    simp [nbeq]
theorem baseL_same (n : Nat) : ∀ l : List AV, baseL l = true → sameLs (n + 1) l l = true
  | [], _ => rfl
  | x :: l, h => by
    simp only [baseL, Bool.and_eq_true] at h
    show cond (sameVF (n + 1) x x) (sameLs (n + 1) l l) false = true
    rw [base_same n x h.1, baseL_same n l h.2]; rfl
theorem okV_same (v : AV) (h : okV v = true) : sameVF 8 v v = true := by
  have b : baseV v = true → sameVF 8 v v = true := base_same 7 v
  cases v <;> simp only [okV] at h <;> (try exact b h)
  · rename_i t v
    show (Nat.beq t t && sameVF 7 v v) = true
    rw [base_same 6 v h]; simp [nbeq]
  · exact baseL_same 6 _ h
  · exact baseL_same 6 _ h
theorem okV_undef : okV .undef = true := rfl

/-! ### Regions -/
/-- Each reading operation's slots are written by nobody behind it. -/
noncomputable def stillB (ops : List Oper) : List Row → Bool
  | [] => true
  | r :: l => !isFresh r.cls && cond (isRead r.cls) (match r.o.dst with
    | some d => !memN d (seesL ops r.o) && allL (fun w => match w.o.dst with | some e => !Nat.beq e d && !memN e (seesL ops r.o) | none => true) l
    | none => false) true && stillB ops l
noncomputable def stillOk (cx : Cx) (n : Nat) (ops : List Oper) : Bool :=
  planOk ops (settle (rowsL cx ops)) && stillB ops (settle (rowsL cx ops)) && dstRows n (settle (rowsL cx ops))

/-- Operations in a row that leave the memory as it is. -/
def stillP (cx : Cx) (ops : List Oper) : List Oper → Fr → AS → (Fr → Prop) → Prop
  | [], F, _, Q => Q F
  | o :: l, F, S, Q => stepP cx ops o F S fun v S' => S' = S ∧ okV v = true ∧ stillP cx ops l (up F o.dst v) S Q
def skont (cx : Cx) (ops l : List Oper) (F : Fr) (d : Option Nat) (S : AS) (Q : Fr → Prop) (v : AV) (S' : AS) : Prop := S' = S ∧ okV v = true ∧ stillP cx ops l (up F d v) S Q
theorem stillP_nil {cx : Cx} {ops : List Oper} {F : Fr} {S : AS} {Q : Fr → Prop} : stillP cx ops [] F S Q = Q F := rfl
theorem stillP_cons {cx : Cx} {ops : List Oper} {o : Oper} {l : List Oper} {F : Fr} {S : AS} {Q : Fr → Prop} : stillP cx ops (o :: l) F S Q = stepP cx ops o F S (skont cx ops l F o.dst S Q) := rfl
theorem skont_app {cx : Cx} {ops l : List Oper} {F : Fr} {d : Option Nat} {S : AS} {Q : Fr → Prop} {v : AV} : skont cx ops l F d S Q v S = (okV v = true ∧ stillP cx ops l (up F d v) S Q) := by
  unfold skont; simp

theorem val?_ne {r : Option AV} {S S' : AS} {n : Nat} {f : FuncId} {l : List AV} (h : val? r S n = .enter f l S') : False := by
  cases r <;> cases h
/-- What does not act enters no function. -/
theorem aop_stays {cx : Cx} {F : Fr} {S S' : AS} {o : Oper} {f : FuncId} {l : List AV} (hc : clsOf cx o = .pure ∨ clsOf cx o = .read) (h : aop cx F S o = .enter f l S') : False := by
  obtain ⟨dst, op, ty, pos, after, guard⟩ := o
  cases op <;> simp only [clsOf, reduceCtorEq, or_self] at hc <;> simp only [aop] at h
  case move x => cases h
  case assign x => cases h
  case pick c a b => split at h <;> cases h
  case build t parts => exact val?_ne h
  case load t x =>
    split at h
    · repeat (split at h <;> try (cases h; done))
    · split at h
      · exact val?_ne h
      · cases h
    · cases h
  case typeAssert x a b ok => exact val?_ne h
  case nilCheck x => split at h <;> cases h
  case binOp op t x y yt => exact val?_ne h
  case unOp op t x => exact val?_ne h
  case convert s d x =>
    simp only [Bool.cond_eq_ite] at h
    repeat' split at h
    all_goals first | (cases h; done) | exact val?_ne h
  case makeInterface t x => split at h <;> cases h
  case makeFunc fn a b => cases h
  case slice t x lo hi mx => exact val?_ne h
  case fieldAddr t x f => repeat (split at h <;> try (cases h; done))
  case field t x f =>
    split at h
    · split at h
      · exact val?_ne h
      · cases h
    · cases h
  case indexAddr t x i =>
    split at h
    · split at h
      · cases hc : (Nat.beq _ _ && Nat.blt _ _) with
        | false => rw [hc] at h; cases h
        | true => rw [hc] at h; cases h
      · cases h
    · split at h
      · cases hc : Nat.blt _ _ with
        | false => rw [hc] at h; cases h
        | true => rw [hc] at h; cases h
      · cases h
    · split at h
      · cases hc : Nat.blt _ _ with
        | false => rw [hc] at h; cases h
        | true => rw [hc] at h; cases h
      · cases h
    · cases h
  case index t x i =>
    split at h
    · split at h <;> cases h
    · split at h
      · cases hc : Nat.blt _ _ with
        | false => rw [hc] at h; cases h
        | true => rw [hc] at h; exact val?_ne h
      · cases h
    · cases h
  case lookup t x i ok => exact val?_ne h
  case extract x i =>
    split at h
    · exact val?_ne h
    · cases h
  case call c =>
    obtain ⟨callee, as, ats⟩ := c
    cases callee with
    | value f => simp at hc
    | invoke r m => simp at hc
    | builtin b =>
      have hb : b = .len ∨ b = .cap ∨ b = .min ∨ b = .max := by cases b <;> simp_all
      simp only [] at h
      unfold builtinV at h
      rcases hb with rfl | rfl | rfl | rfl <;> clear hc <;> split at h <;> (try contradiction) <;> (try (cases h; done))
      · split at h <;> first | (cases h) | (cases h; done)
      · split at h <;> first | (cases h) | (cases h; done)
      · exact val?_ne h
      · exact val?_ne h

theorem aop_val_of {cx : Cx} {F : Fr} {S : AS} {o : Oper} {K : AV → AS → Prop} (hc : clsOf cx o = .pure ∨ clsOf cx o = .read) (h : runP cx (aop cx F S o) K) : ∃ v S', aop cx F S o = .val v S' := by
  cases ha : aop cx F S o with
  | val v S' => exact ⟨v, S', rfl⟩
  | enter f l S' => exact (aop_stays hc ha).elim
  | err n => rw [ha] at h; exact h.elim
  | round f l S' => rw [ha] at h; exact h.elim
  | pan v S' => rw [ha] at h; exact h.elim
  | many l => rw [ha] at h; exact h.elim
/-- A region's rows: what holds behind them may be weakened. -/
theorem rowsP_mono {cx : Cx} {ops : List Oper} : ∀ {l : List Row} {F : Fr} {S : AS} {ps : List Pend} {sn : List AS} {id : Nat} {Q Q' : Fr → AS → List AS → Prop}, rowsP cx ops l F S ps sn id Q → (∀ F' S' sn', Q F' S' sn' → Q' F' S' sn') → rowsP cx ops l F S ps sn id Q'
  | [], _, _, _, _, _, _, _, h, k => k _ _ _ h
  | r :: l, F, S, ps, sn, id, Q, Q', h, k => by
    cases hc : r.cls with
    | fresh =>
      rw [rowsP, hc] at h ⊢
      simp only [] at h ⊢
      cases hw : wantS ops F r.o.guard with
      | none => rw [hw] at h; exact h
      | some b =>
        rw [hw] at h
        refine ⟨fun hb => ?_, fun hb => rowsP_mono (h.2 hb) k⟩
        obtain ⟨v, x, h1, h2⟩ := h.1 hb
        exact ⟨v, x, h1, rowsP_mono h2 k⟩
    | eff =>
      rw [rowsP, hc] at h ⊢
      simp only [] at h ⊢
      exact stepP_mono h fun _ _ h' => rowsP_mono h' k
    | pure =>
      rw [rowsP, hc] at h ⊢
      simp only [] at h ⊢
      cases hw : wantS ops F r.o.guard with
      | none => rw [hw] at h; exact h
      | some b =>
        rw [hw] at h
        refine ⟨fun hb => ?_, fun hb => rowsP_mono (h.2 hb) k⟩
        obtain ⟨v, x, h1, h2⟩ := h.1 hb
        exact ⟨v, x, h1, rowsP_mono h2 k⟩
    | read =>
      rw [rowsP, hc] at h ⊢
      simp only [] at h ⊢
      cases hw : wantS ops F r.o.guard with
      | none => rw [hw] at h; exact h
      | some b =>
        rw [hw] at h
        refine ⟨fun hb => ?_, fun hb => rowsP_mono (h.2 hb) k⟩
        obtain ⟨v, x, h1, h2⟩ := h.1 hb
        exact ⟨v, x, h1, rowsP_mono h2 k⟩
theorem memN_mem (n : Nat) : ∀ l : List Nat, memN n l = true ↔ n ∈ l
  | [] => by show (false = true) ↔ _; simp
  | m :: l => by
    show cond (Nat.beq n m) true (memN n l) = true ↔ _
    rw [nbeq]
    have ih := memN_mem n l
    by_cases h : n = m
    · simp [h]
    · simp [h, ih]
theorem allL_all {α : Type} (p : α → Bool) : ∀ l : List α, allL p l = true ↔ ∀ x, x ∈ l → p x = true
  | [] => by show (true = true) ↔ _; simp
  | x :: l => by
    show cond (p x) (allL p l) false = true ↔ _
    have ih := allL_all p l
    cases h : p x <;> simp [h, ih]
theorem get_up_ne {F : Fr} {d : Option Nat} {t : Nat} {v : AV} (h : d ≠ some t) : (up F d v).t.get t = F.t.get t := by
  cases d with
  | none => rfl
  | some d => exact get_set_ne _ _ (fun e => h (by rw [e]))
theorem get_up_same {F : Fr} {d : Nat} {v : AV} : (up F (some d) v).t.get d = some v := get_set_same _ _ _

/-- What is known behind a still region. -/
structure Still (cx : Cx) (ops : List Oper) (l : List Row) (F : Fr) (S : AS) (sn : List AS) (F' : Fr) (S' : AS) (sn' : List AS) : Prop where
  mem : S' = S
  sns : ∀ T, T ∈ sn' → T = S ∨ T ∈ sn
  n : F'.n = F.n
  keep : ∀ t, (∀ r, r ∈ l → r.o.dst ≠ some t) → F'.t.get t = F.t.get t
  read : ∀ q, q ∈ l → isRead q.cls = true → ∃ d v, q.o.dst = some d ∧ F'.t.get d = some v ∧ okV v = true ∧ oneV cx ops F' S q.o = some v

theorem still_rows {cx : Cx} {ops : List Oper} : ∀ {l : List Row} {F : Fr} {S : AS} {sn : List AS} {id : Nat} {Q : Fr → Prop}, stillB ops l = true → (∀ r, r ∈ l → (r.cls = .pure ∨ r.cls = .read) → clsOf cx r.o = r.cls) →
    stillP cx ops (l.map (·.o)) F S Q → rowsP cx ops l F S [] sn id fun F' S' sn' => Still cx ops l F S sn F' S' sn' ∧ Q F'
  | [], F, S, sn, id, Q, _, _, h => ⟨⟨rfl, fun T hT => by
      rcases List.mem_cons.1 hT with e | e
      · exact .inl e
      · exact .inr e, rfl, fun _ _ => rfl, fun q hq => by cases hq⟩, h⟩
  | r :: l, F, S, sn, id, Q, hb, hc, h => by
    simp only [stillB, Bool.and_eq_true] at hb
    obtain ⟨⟨hf, hr⟩, hl⟩ := hb
    have h' : stepP cx ops r.o F S fun v S' => S' = S ∧ okV v = true ∧ stillP cx ops (l.map (·.o)) (up F r.o.dst v) S Q := h
    have hcl : ∀ r', r' ∈ l → (r'.cls = .pure ∨ r'.cls = .read) → clsOf cx r'.o = r'.cls := fun r' hr' => hc r' (List.mem_cons_of_mem _ hr')
    -- what the rest gives, taken one row further
    have rest : ∀ (v : AV) (sn1 : List AS), (∀ T, T ∈ sn1 → T = S ∨ T ∈ sn) → okV v = true → stillP cx ops (l.map (·.o)) (up F r.o.dst v) S Q → (isRead r.cls = true → oneV cx ops F S r.o = some v) →
        rowsP cx ops l (up F r.o.dst v) S [] sn1 id fun F' S' sn' => Still cx ops (r :: l) F S sn F' S' sn' ∧ Q F' := by
      intro v sn1 hs hv hk ho
      refine rowsP_mono (still_rows (sn := sn1) hl hcl hk) ?_
      rintro F' S' sn' ⟨⟨k1, k2, k3, k4, k5⟩, hq⟩
      refine ⟨⟨k1, fun T hT => ?_, k3.trans (n_up _ _ _), fun t ht => ?_, fun q hq hqr => ?_⟩, hq⟩
      · rcases k2 T hT with e | e
        · exact .inl e
        · exact hs T e
      · rw [k4 t fun r' hr' => ht r' (List.mem_cons_of_mem _ hr'), get_up_ne (ht r (List.mem_cons_self ..))]
      · rcases List.mem_cons.1 hq with rfl | hq
        · rw [hqr] at hr
          simp only [cond_true] at hr
          cases hd : q.o.dst with
          | none => rw [hd] at hr; cases hr
          | some d =>
            rw [hd] at hr
            simp only [Bool.and_eq_true, Bool.not_eq_true'] at hr
            obtain ⟨h1, h2⟩ := hr
            rw [allL_all] at h2
            have hmem : ∀ t, t ∈ seesL ops q.o → memN t (seesL ops q.o) = true := fun t ht => (memN_mem _ _).2 ht
            have hkeep : ∀ t, (t = d ∨ t ∈ seesL ops q.o) → ∀ r', r' ∈ l → r'.o.dst ≠ some t := by
              intro t ht r' hr' e
              have := h2 r' hr'
              rw [e] at this
              simp only [nbeq, Bool.and_eq_true, Bool.not_eq_true', decide_eq_false_iff_not] at this
              rcases ht with rfl | ht
              · exact this.1 rfl
              · rw [hmem t ht] at this; cases this.2
            refine ⟨d, v, rfl, ?_, hv, ?_⟩
            · rw [k4 d (hkeep d (.inl rfl)), hd, get_up_same]
            · rw [← ho hqr]
              refine oneV_congr fun t ht => ?_
              rw [k4 t (hkeep t (.inr ht)), get_up_ne]
              rw [hd]
              intro e
              cases e
              rw [hmem _ ht] at h1
              cases h1
        · exact k5 q hq hqr
    cases hcls : r.cls with
    | fresh => rw [hcls] at hf; cases hf
    | eff =>
      rw [rowsP, hcls]
      simp only []
      refine stepP_mono (show stepP cx ops r.o F S _ from h') ?_
      rintro v S' ⟨rfl, hv, hk⟩
      exact rest v _ (fun T hT => by
        rcases List.mem_cons.1 hT with e | e
        · exact .inl e
        · exact .inr e) hv hk (fun e => by rw [hcls] at e; cases e)
    | pure =>
      rw [rowsP, hcls]
      simp only []
      unfold stepP at h'
      cases hw : wantS ops F r.o.guard with
      | none => rw [hw] at h'; exact h'
      | some b =>
        rw [hw] at h'
        refine ⟨fun hb => ?_, fun hb => ?_⟩
        · have h1 := h'.1 hb
          obtain ⟨v, S', ha⟩ : ∃ v S', aop cx F S r.o = .val v S' := aop_val_of (.inl (hc r (List.mem_cons_self ..) (.inl hcls) |>.trans hcls)) h1
          rw [ha] at h1
          exact ⟨v, S', ha, rest v sn (fun T hT => .inr hT) h1.2.1 h1.2.2 (fun e => by rw [hcls] at e; cases e)⟩
        · have h1 := h'.2 hb
          exact rest _ sn (fun T hT => .inr hT) h1.2.1 h1.2.2 (fun e => by rw [hcls] at e; cases e)
    | read =>
      rw [rowsP, hcls]
      simp only []
      unfold stepP at h'
      cases hw : wantS ops F r.o.guard with
      | none => rw [hw] at h'; exact h'
      | some b =>
        rw [hw] at h'
        refine ⟨fun hb => ?_, fun hb => ?_⟩
        · have h1 := h'.1 hb
          obtain ⟨v, S', ha⟩ : ∃ v S', aop cx F S r.o = .val v S' := aop_val_of (.inr (hc r (List.mem_cons_self ..) (.inr hcls) |>.trans hcls)) h1
          rw [ha] at h1
          refine ⟨v, S', ha, rest v sn (fun T hT => .inr hT) h1.2.1 h1.2.2 fun _ => ?_⟩
          rw [oneV_eq, hw, hb]
          simp only [ha]
        · have h1 := h'.2 hb
          refine rest _ sn (fun T hT => .inr hT) h1.2.1 h1.2.2 fun _ => ?_
          rw [oneV_eq, hw, hb]

theorem still_ok {cx : Cx} {ops : List Oper} {F : Fr} {S : AS} {Q : Fr → AS → Prop} {n : Nat} (hk : stillOk cx n ops = true) (hn : F.n = n) (h : stillP cx ops ops F S fun F' => Q F' S) : drawnP cx ops F S Q := by
  unfold stillOk at hk
  simp only [Bool.and_eq_true] at hk
  obtain ⟨⟨h1, h2⟩, h3⟩ := hk
  subst hn
  have hp := plan_rows cx ops.toArray
  simp only [List.toList_toArray] at hp
  obtain ⟨pl, pc⟩ := hp
  have hmap : (settle (rowsL cx ops)).map (·.o) = ops := by
    apply List.ext_getElem?
    intro i
    rw [List.getElem?_map]
    cases hi : (settle (rowsL cx ops))[i]? with
    | none =>
      have hlen := pl.len
      simp only [List.size_toArray] at hlen
      rw [List.getElem?_eq_none_iff] at hi
      simp only [Option.map_none]
      exact (List.getElem?_eq_none_iff.2 (by omega)).symm
    | some r =>
      have := (pl.row i r hi).2
      simp only [List.getElem?_toArray] at this
      simp [this]
  have hnf : ∀ l : List Row, stillB ops l = true → freshN l = 0 := by
    intro l
    induction l with
    | nil => intro _; rfl
    | cons r l ih =>
      intro hb
      simp only [stillB, Bool.and_eq_true] at hb
      show cond (isFresh r.cls) (Nat.succ (freshN l)) (freshN l) = 0
      have hf : isFresh r.cls = false := by simpa using hb.1.1
      rw [hf, ih hb.2]; rfl
  refine ⟨?_⟩
  unfold drawnP0 planR
  rw [h1]
  simp only [cond_true]
  rw [hnf _ h2]
  refine rowsP_mono (still_rows (S := S) (sn := []) h2 (fun r hr hc => ?_) (by rw [hmap]; exact h)) ?_
  · obtain ⟨i, hi⟩ := List.getElem?_of_mem hr
    exact pc i r hi hc
  · rintro F' S' sn ⟨hs, hq⟩
    obtain ⟨rfl, k2, k3, _, k5⟩ := hs
    refine ⟨fun q hqm hqr => ?_, hq⟩
    obtain ⟨d, v, e1, e2, e3, e4⟩ := k5 q hqm hqr
    have hd : d < F'.n := by
      rw [k3]
      have := List.all_eq_true.1 h3 q hqm
      unfold dst1 at this
      rw [e1] at this
      simpa [nblt] using this
    unfold windowOk
    have hall : ∀ T, T ∈ takeN (Nat.succ (Nat.sub (countL (fun e => !bit e.bef q.i) (filL (fun e => isEff e.cls) (settle (rowsL cx ops)))) (countL (fun e => bit q.bef e.i) (filL (fun e => isEff e.cls) (settle (rowsL cx ops)))))) (dropN (countL (fun e => bit q.bef e.i) (filL (fun e => isEff e.cls) (settle (rowsL cx ops)))) (revL sn)) → T = S' := by
      intro T hT
      rw [takeN_eq, dropN_eq] at hT
      have := List.mem_of_mem_drop (List.mem_of_mem_take hT)
      rw [revL_eq, List.mem_reverse] at this
      rcases k2 T this with e | e
      · exact e
      · cases e
    simp only []
    split
    · rfl
    · simp only [e1, nblt, hd, decide_true, cond_true, e2]
      rw [allL_all]
      intro T hT
      rw [hall T hT, e4]
      exact okV_same v e3
end Go.Am

namespace Go.Am
open Go
set_option linter.unusedSimpArgs false

section
variable {cx : Cx} {ops : List Oper} {F : Fr} {S : AS}
variable {dst : Option Tmp} {ty : TypeId} {pos : String} {af : Array Edge} {g : Option (Nat × Bool)}

theorem lenL_lit {α : Type} (l : List α) : lenL l = l.length := lenL_eq l
theorem cellsOf_agg {cs : List AV} : cellsOf (.agg cs) = some cs := rfl
theorem cellsOf_int {k : IntKind} {n : Int} : cellsOf (.int k n) = some [.int k n] := rfl
theorem cellsOf_bool {b : Bool} : cellsOf (.bool b) = some [.bool b] := rfl
theorem cellsOf_str {s : List Nat} : cellsOf (.str s) = some [.str s] := rfl
theorem cellsOf_iface {t : TypeId} {v : AV} : cellsOf (.iface t v) = some [.iface t v] := rfl
theorem cellsOf_niface : cellsOf .niface = some [.niface] := rfl
theorem cellsOf_nils : cellsOf .nils = some [.nils] := rfl
theorem cellsOf_nilp : cellsOf .nilp = some [.nilp] := rfl
theorem cellsOf_ptr {a b c d : Nat} : cellsOf (.ptr a b c d) = some [.ptr a b c d] := rfl
theorem cellsOf_slice {a b c d e f : Nat} {h : Option Nat} : cellsOf (.slice a b c d e f h) = some [.slice a b c d e f h] := rfl

def boxV (id : Nat) (t : TypeId) (cs : Option (List AV)) : Option (AV × AObj) := match cs with | some cs => some (.ptr id 0 0 cs.length, .row cs 0 0 false t) | none => none
theorem boxV_some {id : Nat} {t : TypeId} {cs : List AV} : boxV id t (some cs) = some (.ptr id 0 0 cs.length, .row cs 0 0 false t) := rfl
theorem freshV_box {id : Nat} {t : TypeId} {x : Operand} : freshV cx F id (.box t x) = boxV id t (cellsOf (eval F x)) := by
  unfold freshV boxV
  simp only [lenL_eq]
  cases cellsOf (eval F x) <;> rfl
def allocV (id : Nat) (e : TypeId) (z : Option AV) : Option (AV × AObj) := match z with | some z => boxV id e (cellsOf z) | none => none
theorem allocV_some {id : Nat} {e : TypeId} {z : AV} : allocV id e (some z) = boxV id e (cellsOf z) := rfl
theorem freshV_alloc {id : Nat} {e : TypeId} : freshV cx F id (.alloc e) = allocV id e (zeroOf cx e) := by
  unfold freshV allocV boxV
  simp only [lenL_eq]
  cases zeroOf cx e with
  | none => rfl
  | some z => simp only []; cases cellsOf z <;> rfl


noncomputable def rdO (o : Option AObj) (gn off n lim : Nat) : Option (List AV) := match o with
  | some (.row cells low top _ _) => if low ≤ gn ∧ gn ≤ top ∧ off + n ≤ lim then some ((cells.drop off).take n) else none
  | _ => none
theorem rdO_row {cells : List AV} {low top gn off n lim : Nat} {frz : Bool} {e : TypeId} : rdO (some (.row cells low top frz e)) gn off n lim = if low ≤ gn ∧ gn ≤ top ∧ off + n ≤ lim then some ((cells.drop off).take n) else none := rfl
theorem rd_at {id gn off n lim : Nat} : rd S id gn off n lim = rdO (S.h.get id) gn off n lim := by
  unfold rd rdO
  cases S.h.get id with
  | none => rfl
  | some o =>
    cases o with
    | map es c => rfl
    | oth x => rfl
    | row cells low top frz e =>
      simp only [nble, show Nat.add off n = off + n from rfl, takeN_eq, dropN_eq]
      by_cases h1 : low ≤ gn <;> by_cases h2 : gn ≤ top <;> by_cases h3 : off + n ≤ lim <;> simp [h1, h2, h3]
noncomputable def wrO (S : AS) (id : Nat) (o : Option AObj) (gn off lim : Nat) (new : List AV) : Option AS := match o with
  | some (.row cells _ top frz e) => if gn = top ∧ off + new.length ≤ lim ∧ frz = false then some ⟨S.h.set id (.row (splice off cells new) top top false e), S.next⟩ else none
  | _ => none
theorem wrO_row {id : Nat} {cells new : List AV} {low top gn off lim : Nat} {frz : Bool} {e : TypeId} : wrO S id (some (.row cells low top frz e)) gn off lim new = if gn = top ∧ off + new.length ≤ lim ∧ frz = false then some ⟨S.h.set id (.row (splice off cells new) top top false e), S.next⟩ else none := rfl
theorem wr_at {id gn off lim : Nat} {new : List AV} : wr S id gn off lim new = wrO S id (S.h.get id) gn off lim new := by
  unfold wr wrO
  cases S.h.get id with
  | none => rfl
  | some o =>
    cases o with
    | map es c => rfl
    | oth x => rfl
    | row cells low top frz e =>
      simp only [nbeq, nble, lenL_eq, show Nat.add off new.length = off + new.length from rfl]
      by_cases h1 : gn = top <;> by_cases h2 : off + new.length ≤ lim <;> cases frz <;> simp [h1, h2]
theorem splice_lit {off : Nat} {cells new : List AV} (h : off ≤ cells.length) : splice off cells new = cells.take off ++ new ++ cells.drop (off + new.length) := splice_eq off cells new h

noncomputable def loadT (cx : Cx) (S : AS) (t : TypeId) (v : AV) : Option AV := match v with | .ptr a b c d => loadV cx S t (.ptr a b c d) | _ => none
theorem loadT_ptr {t : TypeId} {a b c d : Nat} : loadT cx S t (.ptr a b c d) = loadV cx S t (.ptr a b c d) := rfl
theorem aop_load_at {t : TypeId} {x : Tmp} {v u : AV} (hx : sl F x = v) (h : loadT cx S t v = some u) : aop cx F S ⟨dst, .load t (.tmp x), ty, pos, af, g⟩ = .val u S := by
  unfold loadT at h
  split at h
  · exact aop_load ((eval_tmp F x).trans hx) h
  · cases h

/-- Where a field of a record lies. -/
noncomputable def fieldAt (cx : Cx) (s : TypeId) (f : Nat) : Option Nat := match und cx s with
  | some (.struct fs) => match fs[f]? with
    | some fd => match szOf cx fd.type with
      | some (_ + 1) => some fd.offset
      | _ => none
    | none => none
  | _ => none
def fieldP (v : AV) (o : Option Nat) : Option AV := match v, o with | .ptr id gn off lim, some o => some (.ptr id gn (off + o) lim) | _, _ => none
theorem fieldP_ptr {id gn off lim o : Nat} : fieldP (.ptr id gn off lim) (some o) = some (.ptr id gn (off + o) lim) := rfl
theorem aop_field_at {s : TypeId} {x : Tmp} {f : Nat} {v u : AV} (hx : sl F x = v) (h : fieldP v (fieldAt cx s f) = some u) : aop cx F S ⟨dst, .fieldAddr s (.tmp x) f, ty, pos, af, g⟩ = .val u S := by
  unfold fieldP at h
  split at h
  · rename_i id gn off lim o ho
    cases h
    unfold fieldAt at ho
    split at ho
    · rename_i fs hu
      split at ho
      · rename_i fd hf
        split at ho
        · rename_i z hz
          cases ho
          exact aop_fieldAddr ((eval_tmp F x).trans hx) hu hf hz
        · cases ho
      · cases ho
    · cases ho
  · cases h
/-- A field of a record's value. -/
noncomputable def fieldOf (cx : Cx) (s : TypeId) (f : Nat) (cs : List AV) : Option AV := match und cx s with
  | some (.struct fs) => match fs[f]? with
    | some fd => partOf cx fd.type cs fd.offset
    | none => none
  | _ => none
noncomputable def fieldV (cx : Cx) (s : TypeId) (f : Nat) (v : AV) : Option AV := match v with | .agg cs => fieldOf cx s f cs | _ => none
theorem fieldV_agg {s : TypeId} {f : Nat} {cs : List AV} : fieldV cx s f (.agg cs) = fieldOf cx s f cs := rfl
theorem aop_field_of {s : TypeId} {x : Tmp} {f : Nat} {v u : AV} (hx : sl F x = v) (h : fieldV cx s f v = some u) : aop cx F S ⟨dst, .field s (.tmp x) f, ty, pos, af, g⟩ = .val u S := by
  unfold fieldV at h
  split at h
  · rename_i cs
    unfold fieldOf at h
    split at h
    · rename_i fs hu
      split at h
      · rename_i fd hf
        rw [aop_field ((eval_tmp F x).trans hx) hu hf, h]; rfl
      · cases h
    · cases h
  · cases h
noncomputable def wrV (S : AS) (v : AV) (cs : List AV) : Option AS := match v with | .ptr id gn off lim => wr S id gn off lim cs | _ => none
theorem wrV_ptr {id gn off lim : Nat} {cs : List AV} : wrV S (.ptr id gn off lim) cs = wr S id gn off lim cs := rfl
theorem aop_store_at {t : TypeId} {x : Tmp} {y : Operand} {v : AV} {n : Nat} {cs : List AV} {S' : AS} (hx : sl F x = v) (hy : cellsOf (eval F y) = some cs) (hs : szOf cx t = some n) (hl : cs.length = n)
    (hw : wrV S v cs = some S') : aop cx F S ⟨dst, .store t (.tmp x) y, ty, pos, af, g⟩ = .val .undef S' := by
  unfold wrV at hw
  split at hw
  · exact aop_store ((eval_tmp F x).trans hx) hy hs hl hw
  · cases hw

/-- A type that is no interface. -/
noncomputable def conc (cx : Cx) (t : TypeId) : Bool := match und cx t with | none => false | some (.interface _) => false | some _ => true
theorem aop_mkiface_c {t : TypeId} {x : Operand} (h : conc cx t = true) : aop cx F S ⟨dst, .makeInterface t x, ty, pos, af, g⟩ = .val (.iface t (eval F x)) S := by
  unfold conc at h
  cases hu : und cx t with
  | none => rw [hu] at h; cases h
  | some d =>
    rw [hu] at h
    refine aop_mkiface hu ?_
    cases d <;> first | rfl | cases h
theorem assert_yes {t : TypeId} {v : AV} (h : conc cx t = true) : assertV cx (.iface t v) t true = some (.tuple [v, .bool true]) := by
  unfold conc at h
  unfold assertV
  split
  · rename_i hu; rw [hu] at h; cases h
  · rename_i hu; rw [hu] at h; cases h
  · simp [nbeq]
theorem assert_no {t u : TypeId} {v z : AV} (h : conc cx t = true) (hne : (u == t) = false) (hz : zeroOf cx t = some z) : assertV cx (.iface u v) t true = some (.tuple [z, .bool false]) := by
  unfold conc at h
  unfold assertV
  split
  · rename_i hu; rw [hu] at h; cases h
  · rename_i hu; rw [hu] at h; cases h
  · have : ¬ u = t := by simpa using hne
    simp [nbeq, this, hz]
theorem assert_nil {t : TypeId} {z : AV} (h : conc cx t = true) (hz : zeroOf cx t = some z) : assertV cx .niface t true = some (.tuple [z, .bool false]) := by
  unfold conc at h
  unfold assertV
  split
  · rename_i hu; rw [hu] at h; cases h
  · rename_i hu; rw [hu] at h; cases h
  · simp [hz]
def nthT (v : AV) (i : Nat) : Option AV := match v with | .tuple vs => vs[i]? | _ => none
theorem nthT_tuple {vs : List AV} {i : Nat} : nthT (.tuple vs) i = vs[i]? := rfl
theorem aop_extract_at {x : Tmp} {i : Nat} {v u : AV} (hx : sl F x = v) (h : nthT v i = some u) : aop cx F S ⟨dst, .extract (.tmp x) i, ty, pos, af, g⟩ = .val u S := by
  unfold nthT at h
  split at h
  · simp only [aop_extract, eval_tmp, hx, nth_eq, h]; rfl
  · cases h

theorem bin_str {op : BinOp} {t : TypeId} {c : Bool} {a b : List Nat} : binV cx op t c (.str a) (.str b) = binS op a b := by unfold binV; rfl
theorem binS_lss {a b : List Nat} : binS .lss a b = some (.bool (ltS a b)) := rfl
theorem binS_gtr {a b : List Nat} : binS .gtr a b = some (.bool (ltS b a)) := rfl
theorem binS_eql {a b : List Nat} : binS .eql a b = some (.bool (eqS a b)) := rfl
theorem binS_neq {a b : List Nat} : binS .neq a b = some (.bool (!eqS a b)) := rfl
theorem bin_eql_agg {t : TypeId} {c : Bool} {a b : List AV} {r : Bool} (h : eqV cx t c (.agg a) (.agg b) = some r) : binV cx .eql t c (.agg a) (.agg b) = some (.bool r) := by
  simp only [binV, h]
theorem un_neg {k : IntKind} {n : Int} : unV .neg (.int k n) = some (.int k (k.wrap (0 - n))) := by
  show some (mkI k (Int.sub 0 n)) = _
  rw [mkI_eq]; rfl
theorem callV_ext {f : FuncId} {x : Xf} {first captured as : List AV} (h : cx.exts.get f = some x) : callV cx S (.func (.func f) first captured) as = vals? (extM x S (first ++ (as ++ captured))) 101 := by
  simp only [callV, h, appL_eq]
theorem ext_cmp {a b : List Nat} : extM .cmpstr S [.str a, .str b] = some (cond (ltS a b) (.int .i64 (-1)) (cond (eqS a b) (.int .i64 0) (.int .i64 1)), S) := rfl
theorem min_two {ts : List TypeId} {k : IntKind} {a b : Int} : builtinV cx S .min ts [.int k a, .int k b] = .val (.int k (if b < a then b else a)) S := by
  show val? (bif kindEq k k then foldI (fun n m => !ltI m n) k (bif !ltI b a then a else b) [] else none) S 10 = _
  rw [kind_self, ltI_eq]
  by_cases h : b < a <;> simp [h, foldI, val?]
def soleL (o : Option (List AV)) : Option AV := match o with | some [v] => some v | _ => none
theorem soleL_one {v : AV} : soleL (some [v]) = some v := rfl
def aggL (o : Option (List AV)) : Option AV := match o with | some cs => some (.agg cs) | none => none
theorem aggL_some {cs : List AV} : aggL (some cs) = some (.agg cs) := rfl
noncomputable def loadK (S : AS) (a : Option Bool) (z : Option Nat) (id gn off lim : Nat) : Option AV := match a, z with
  | some true, some n => aggL (rdO (S.h.get id) gn off n lim)
  | some false, _ => soleL (rdO (S.h.get id) gn off 1 lim)
  | _, _ => none
theorem loadK_agg {id gn off lim n : Nat} : loadK S (some true) (some n) id gn off lim = aggL (rdO (S.h.get id) gn off n lim) := rfl
theorem loadK_one {id gn off lim : Nat} {z : Option Nat} : loadK S (some false) z id gn off lim = soleL (rdO (S.h.get id) gn off 1 lim) := by cases z <;> rfl
theorem loadV_at {t : TypeId} {id gn off lim : Nat} : loadV cx S t (.ptr id gn off lim) = loadK S (aggOf cx t) (szOf cx t) id gn off lim := by
  unfold loadV loadK
  cases aggOf cx t with
  | none => rfl
  | some b =>
    cases b with
    | true =>
      cases szOf cx t with
      | none => rfl
      | some n =>
        simp only [rd_at, aggL]
        cases rdO (S.h.get id) gn off n lim <;> rfl
    | false =>
      simp only [rd_at, soleL]
      cases szOf cx t <;> rfl
/-- A record from its parts' values. -/
noncomputable def fillA (place : Nat → Option (Nat × Nat)) : List (Nat × AV) → List AV → Option (List AV)
  | [], cells => some cells
  | p :: l, cells => match place p.1, cellsOf p.2 with
    | some (off, size), some new => cond (Nat.beq (lenL new) size && Nat.ble (Nat.add off size) (lenL cells)) (fillA place l (splice off cells new)) none
    | _, _ => none
theorem fillL_fillA {pl : Nat → Option (Nat × Nat)} : ∀ (parts : List (Nat × Operand)) (cells : List AV), fillL cx F pl parts cells = fillA pl (parts.map fun p => (p.1, eval F p.2)) cells
  | [], _ => rfl
  | p :: l, cells => by
    show (match pl p.1, cellsOf (eval F p.2) with
      | some (off, size), some new => cond (Nat.beq (lenL new) size && Nat.ble (Nat.add off size) (lenL cells)) (fillL cx F pl l (splice off cells new)) none
      | _, _ => none) = _
    simp only [List.map_cons, fillA, fillL_fillA l]
noncomputable def buildA (cx : Cx) (t : TypeId) (parts : List (Nat × AV)) : Option AV :=
  match zeroOf cx t with
  | none => none
  | some z => match cellsOf z, und cx t with
    | some zero, some (.struct fs) => match placesL cx fs.toList with
      | some ps => match fillA (fun i => nth i ps) parts zero with
        | some cells => some (.agg cells)
        | none => none
      | none => none
    | some zero, some (.array _ e) => match szOf cx e with
      | some sz => match fillA (fun i => some (Nat.mul i sz, sz)) parts zero with
        | some cells => some (.agg cells)
        | none => none
      | none => none
    | _, _ => none
theorem buildV_A {t : TypeId} {parts : List (Nat × Operand)} : buildV cx F t parts = buildA cx t (parts.map fun p => (p.1, eval F p.2)) := by
  unfold buildV buildA
  simp only [fillL_fillA]
  rfl
theorem okV_bool {b : Bool} : okV (.bool b) = true := rfl
theorem okV_int {k : IntKind} {n : Int} : okV (.int k n) = true := rfl
theorem okV_str {s : List Nat} : okV (.str s) = true := rfl
theorem okV_nilp : okV .nilp = true := rfl
theorem okV_ptr {a b c d : Nat} : okV (.ptr a b c d) = true := rfl
theorem okV_nils : okV .nils = true := rfl
theorem okV_slice {a b c d e f : Nat} {h : Option Nat} : okV (.slice a b c d e f h) = true := rfl
theorem okV_nilm : okV .nilm = true := rfl
theorem okV_map {a : Nat} : okV (.map a) = true := rfl
theorem okV_nilf : okV .nilf = true := rfl
theorem okV_niface : okV .niface = true := rfl
theorem okV_iface {t : TypeId} {v : AV} : okV (.iface t v) = baseV v := rfl
theorem okV_agg {l : List AV} : okV (.agg l) = baseL l := rfl
theorem okV_tuple {l : List AV} : okV (.tuple l) = baseL l := rfl
theorem nx2 (n : Nat) : n + 1 + 1 = n + 2 := rfl
theorem nx3 (n : Nat) : n + 2 + 1 = n + 3 := rfl
theorem nx4 (n : Nat) : n + 3 + 1 = n + 4 := rfl
theorem nx5 (n : Nat) : n + 4 + 1 = n + 5 := rfl
theorem nx6 (n : Nat) : n + 5 + 1 = n + 6 := rfl
end
attribute [-simp] aop_extract
attribute [simp] min_two nx2 nx3 nx4 nx5 nx6 buildV_A loadV_at loadK_agg loadK_one aggL_some soleL_one lenL_lit cellsOf_agg cellsOf_int cellsOf_bool cellsOf_str cellsOf_iface cellsOf_niface cellsOf_nils cellsOf_nilp cellsOf_ptr cellsOf_slice boxV_some freshV_box allocV_some freshV_alloc get_set
  rd_at rdO_row wr_at wrO_row splice_lit loadT_ptr aop_load_at fieldP_ptr aop_field_at fieldV_agg aop_field_of wrV_ptr aop_store_at nthT_tuple aop_extract_at aop_mkiface_c assert_yes assert_no assert_nil bin_str binS_lss binS_gtr binS_eql binS_neq un_neg callV_ext ext_cmp
  stillP_nil stillP_cons skont_app okV_undef okV_bool okV_int okV_str okV_nilp okV_ptr okV_nils okV_slice okV_nilm okV_map okV_nilf okV_niface okV_iface okV_agg okV_tuple baseV baseL
end Go.Am

namespace Go.Am
open Go Go.RowKit
variable {Λ : LB}

theorem wrap_i64 {n : Int} (h1 : -9223372036854775808 ≤ n) (h2 : n < 9223372036854775808) : IntKind.i64.wrap n = n := by
  unfold IntKind.wrap
  simp only [IntKind.bits, IntKind.signed]
  simp
  omega
theorem wrap_i64_rng (n : Int) : -9223372036854775808 ≤ IntKind.i64.wrap n ∧ IntKind.i64.wrap n < 9223372036854775808 := by
  unfold IntKind.wrap
  simp only [IntKind.bits, IntKind.signed]
  simp
  omega
theorem sym_all {n : Int} (h1 : -9223372036854775808 ≤ n) (h2 : n < 9223372036854775808) : ∃ b, OK.val .sym b = .int .i64 n := by
  obtain ⟨b, hb⟩ := symI_all n
  exact ⟨b, by simp only [OK.val, hb, wrap_i64 h1 h2]⟩
/-- A place that only tells a symbol's value. -/
def symPl (b : Nat) : Pl := ⟨b, 0, 0, 0, Nat.le_refl _⟩
/-- A symbol more. -/
theorem R.sym {ρ : Rho} {S : AS} {w : World} (h : R Λ ρ S w) (pl : Pl) : R Λ (put ρ S.next 0 pl) ⟨S.h, S.next + 1⟩ w := by
  have hx := put_ext (ρ := ρ) (id := S.next) (g := 0) pl (h.fresh _ _ (Nat.le_refl _))
  have ne : ∀ {i g : Nat} {o : AObj}, S.h.get i = some o → put ρ S.next 0 pl i g = ρ i g := fun hi => put_ne _ _ fun e => by have := h.dom _ _ hi; omega
  refine ⟨fun id o ho => (h.objs id o ho).keep hx fun g pl _ => rfl, fun id o ho => Nat.lt_succ_of_lt (h.dom id o ho), fun id g hi => ?_, fun id c l t f ty hi g hg => ?_, fun id o g p hi hp => ?_, fun i j o oj g gj p pj hij hi hj hp hpj => ?_, h.start, fun b hb => ?_⟩
  · have hi' : S.next + 1 ≤ id := hi
    rw [put_ne _ _ (fun e => by omega)]
    exact h.fresh id g (by omega)
  · rw [ne hi]; exact h.topg id c l t f ty hi g hg
  · rw [ne hi] at hp; exact h.lt id o g p hi hp
  · rw [ne hi] at hp; rw [ne hj] at hpj; exact h.apart i j o oj g gj p pj hij hi hj hp hpj
  · obtain ⟨d1, d2, d3⟩ := h.base b hb
    refine ⟨d1, d2, ?_⟩
    rintro ⟨i, o, g, p, hi, hz, hp, rfl⟩
    rw [ne hi] at hp
    exact d3 ⟨i, o, g, p, hi, hz, hp, rfl⟩
theorem Kp.sym {ρ : Rho} {S : AS} {w : World} (h : R Λ ρ S w) (pl : Pl) : Kp ρ S w (put ρ S.next 0 pl) ⟨S.h, S.next + 1⟩ w := by
  have hx := put_ext (ρ := ρ) (id := S.next) (g := 0) pl (h.fresh _ _ (Nat.le_refl _))
  have ne : ∀ {i g : Nat} {o : AObj}, S.h.get i = some o → put ρ S.next 0 pl i g = ρ i g := fun hi => put_ne _ _ fun e => by have := h.dom _ _ hi; omega
  refine ⟨hx, rfl, rfl, rfl, Nat.le_refl _, fun _ _ _ => rfl, fun b hb => ?_, fun b hb => ?_, Nat.le_succ _, fun id g hi hn => ⟨put_ne _ _ fun e => by omega, hn⟩⟩
  · obtain ⟨i, o, g, p, hi, hp, rfl⟩ := hb
    have hi' : S.h.get i = some o := hi
    rw [ne hi'] at hp
    exact .inl ⟨i, o, g, p, hi', hp, rfl⟩
  · obtain ⟨i, o, g, p, hi, hz, hp, rfl⟩ := hb
    have hi' : S.h.get i = some o := hi
    rw [ne hi'] at hp
    exact .inl ⟨i, o, g, p, hi', hz, hp, rfl⟩
/-- Cells that stand for what others stand for. -/
def CellsTo (ρ : Rho) (a b : List AV) : Prop := a.length = b.length ∧ ∀ (i : Nat) (x y : AV), a[i]? = some x → b[i]? = some y → ∀ v, VRel ρ x v → VRel ρ y v
section
variable {ρ : Rho} {S : AS} {w : World} {id low top : Nat} {frz : Bool} {ty : TypeId} {a b : List AV}
theorem frz_row : Frz (.row a low top frz ty) ↔ Frz (.row b low top frz ty) := by
  constructor
  · rintro ⟨c, l, t, y, e⟩; cases e; exact ⟨_, _, _, _, rfl⟩
  · rintro ⟨c, l, t, y, e⟩; cases e; exact ⟨_, _, _, _, rfl⟩
theorem get_row (hid : S.h.get id = some (.row a low top frz ty)) {i : Nat} {o : AObj} (h : (S.h.set id (.row b low top frz ty)).get i = some o) :
    ∃ o', S.h.get i = some o' ∧ (Frz o ↔ Frz o') := by
  by_cases e : i = id
  · subst e
    rw [get_set_same] at h
    cases h
    exact ⟨_, hid, frz_row⟩
  · rw [get_set_ne _ _ e] at h
    exact ⟨o, h, Iff.rfl⟩
theorem get_row' (hid : S.h.get id = some (.row a low top frz ty)) {i : Nat} {o : AObj} (h : S.h.get i = some o) :
    ∃ o', (S.h.set id (.row b low top frz ty)).get i = some o' ∧ (Frz o ↔ Frz o') := by
  by_cases e : i = id
  · subst e
    rw [hid] at h
    cases h
    exact ⟨_, get_set_same _ _ _, frz_row⟩
  · exact ⟨o, by rw [get_set_ne _ _ e]; exact h, Iff.rfl⟩
theorem wrt_row (hid : S.h.get id = some (.row a low top frz ty)) (k : Nat) : Wrt ρ ⟨S.h.set id (.row b low top frz ty), S.next⟩ k ↔ Wrt ρ S k := by
  constructor
  · rintro ⟨i, o, g, p, hi, hz, hp, e⟩
    obtain ⟨o', h1, h2⟩ := get_row hid hi
    exact ⟨i, o', g, p, h1, fun z => hz (h2.2 z), hp, e⟩
  · rintro ⟨i, o, g, p, hi, hz, hp, e⟩
    obtain ⟨o', h1, h2⟩ := get_row' (b := b) hid hi
    exact ⟨i, o', g, p, h1, fun z => hz (h2.2 z), hp, e⟩
theorem mine_row (hid : S.h.get id = some (.row a low top frz ty)) (k : Nat) : Mine ρ ⟨S.h.set id (.row b low top frz ty), S.next⟩ k ↔ Mine ρ S k := by
  constructor
  · rintro ⟨i, o, g, p, hi, hp, e⟩
    obtain ⟨o', h1, h2⟩ := get_row hid hi
    exact ⟨i, o', g, p, h1, hp, e⟩
  · rintro ⟨i, o, g, p, hi, hp, e⟩
    obtain ⟨o', h1, h2⟩ := get_row' (b := b) hid hi
    exact ⟨i, o', g, p, h1, hp, e⟩
theorem R.conc (h : R Λ ρ S w) (hid : S.h.get id = some (.row a low top frz ty)) (hc : CellsTo ρ a b) : R Λ ρ ⟨S.h.set id (.row b low top frz ty), S.next⟩ w := by
  refine ⟨fun i o ho => ?_, fun i o ho => ?_, h.fresh, fun i c l t f y ho g hg => ?_, fun i o g p ho hp => ?_, fun i j o oj g gj p pj hij hi hj hp hpj => ?_, h.start, fun k hk => ?_⟩
  · have ho' : (S.h.set id (.row b low top frz ty)).get i = some o := ho
    by_cases e : i = id
    · subst e
      rw [get_set_same] at ho'
      cases ho'
      obtain ⟨h1, h2, h3⟩ := h.objs i _ hid
      refine ⟨h1, fun g g1 g2 => ?_, h3⟩
      obtain ⟨pl, C, fr, a1, a2, a3, a4, a5, a6, a7, a8⟩ := h2 g g1 g2
      refine ⟨pl, C, fr, a1, a2, a3, a4, by rw [← hc.1]; exact a5, fun k hk => ?_, fun e => by rw [← hc.1]; exact a7 e, a8⟩
      obtain ⟨x, v, b1, b2, b3, b4⟩ := a6 k hk
      have hk' : k < b.length := by rw [← hc.1]; omega
      exact ⟨b[k], v, List.getElem?_eq_getElem hk', b2, hc.2 k x _ b1 (List.getElem?_eq_getElem hk') v b3, b4⟩
    · rw [get_set_ne _ _ e] at ho'
      exact h.objs i o ho'
  · obtain ⟨o', h1, _⟩ := get_row hid ho
    exact h.dom i o' h1
  · have ho' : (S.h.set id (.row b low top frz ty)).get i = some (.row c l t f y) := ho
    by_cases e : i = id
    · subst e
      rw [get_set_same] at ho'
      cases ho'
      exact h.topg i _ _ _ _ _ hid g hg
    · rw [get_set_ne _ _ e] at ho'
      exact h.topg i c l t f y ho' g hg
  · obtain ⟨o', h1, _⟩ := get_row hid ho
    exact h.lt i o' g p h1 hp
  · obtain ⟨o', h1, k1⟩ := get_row hid hi
    obtain ⟨oj', h2, k2⟩ := get_row hid hj
    rcases h.apart i j o' oj' g gj p pj hij h1 h2 hp hpj with q | ⟨q1, q2⟩
    · exact .inl q
    · exact .inr ⟨k1.2 q1, k2.2 q2⟩
  · obtain ⟨d1, d2, d3⟩ := h.base k hk
    exact ⟨d1, d2, fun hw => d3 ((wrt_row hid k).1 hw)⟩
end
/-- A call that gives a value without addresses, and leaves what was as it was: which value it is is told. -/
theorem flat_kept {P : Program} {A : Ask} (hr : Ready P A) (hp : ∀ x, x ∈ A.prims → PrimOk Λ P x.1 x.2) (hg : ∀ x, x ∈ A.globs → GlobOk Λ.w Λ.B x.1 x.2) {f : FuncId} (n : Nat) {ρ : Rho} {as : List AV} {S : AS} {w : World} {args : Array Value} {Pv : AV → Prop}
    (hR : R Λ ρ S w) (hl : LRel ρ as args.toList) (hf : ∀ v, Pv v → flatF n v = true) (hc : CallW (mkCx P A) f as S fun v' T => Pv v' ∧ Sub S T) :
    (∃ fn, P.funcs[f]? = some fn ∧ fn.body.isSome = true) ∧ Calls P f args w fun e w' => ∃ x v ρ', e = .returned x ∧ Pv v ∧ VRel ρ' v x ∧ R Λ ρ' S w' ∧ Kp ρ S w ρ' S w' := by
  obtain ⟨k1, k2⟩ := calls_of hr hp hg hR hl hc
  refine ⟨k1, k2.mono ?_⟩
  rintro e w' ⟨x, v', T, ρ', rfl, h1, ⟨hv, h2⟩, h3, h4⟩
  have hx : Ext ρ (fun i g => if i < S.next then ρ' i g else none) := by
    intro i g pl hpl
    have hi : i < S.next := by
      rcases Nat.lt_or_ge i S.next with hh | hh
      · exact hh
      · rw [hR.fresh i g hh] at hpl; cases hpl
    simp only [if_pos hi]
    exact h4.ext i g pl hpl
  have hO : ∀ id o, S.h.get id = some o → ORel (fun i g => if i < S.next then ρ' i g else none) w' id o := by
    intro id o ho
    have hT : T.h.get id = some o := by rw [h2.h id (hR.dom id o ho)]; exact ho
    exact ORel.restrict hx h4.ext (fun g => by simp only [if_pos (hR.dom id o ho)]) (hR.objs id o ho) (h3.objs id o hT)
  refine ⟨x, v', _, rfl, hv, flat_rel n v' x ρ' _ (hf v' hv) h1, h3.drop h2 hR.dom hO, ⟨hx, h4.os, h4.tape, h4.output, h4.size, h4.keep, fun b hb => ?_, fun b hb => ?_, Nat.le_refl _, fun id g hi hn => ⟨by simp only [if_pos hi]; exact (h4.resv id g hi hn).1, hn⟩⟩⟩
  · obtain ⟨i, o, g, pl, hi, hp', rfl⟩ := hb
    simp only [if_pos (hR.dom i o hi)] at hp'
    exact h4.mine _ ⟨i, o, g, pl, by rw [h2.h i (hR.dom i o hi)]; exact hi, hp', rfl⟩
  · obtain ⟨i, o, g, pl, hi, hz, hp', rfl⟩ := hb
    simp only [if_pos (hR.dom i o hi)] at hp'
    exact h4.wrt _ ⟨i, o, g, pl, by rw [h2.h i (hR.dom i o hi)]; exact hi, hz, hp', rfl⟩
end Go.Am
