/-
  The abstract machine: a region that draws its order and leaves the memory as it is.
-/
import Derived.Test.YtfempihpphbgmaaGreatAmPrim
import Derived.Test.YtfempihpphbgmaaGreatAmPlan
import Derived.Test.YtfempihpphbgmaaGreatAmCongr
import Derived.Test.YtfempihpphbgmaaGreatAmDraws
namespace Go.Am
set_option linter.unusedSimpArgs false
open Go
def baseV : AV → Bool
 | .bool _ => true | .int .. => true | .str _ => true | .nilp => true | .ptr .. => true | .nils => true | .slice .. => true | .nilm => true | .map _ => true | .nilf => true | .niface => true
 | _ => false
def baseL : List AV → Bool
 | [] => true
 | x :: l => baseV x && baseL l
def okV : AV → Bool
 | .agg l => baseL l
 | .tuple l => baseL l
 | .iface _ v => baseV v
 | v => baseV v
theorem eqS_self : ∀ s : List Nat, eqS s s = true
 | [] => rfl
 | x :: l => by
  show cond (Nat.beq x x) (eqS l l) false = true
  rw [nbeq, eqS_self l]; simp
theorem kind_self (k : IntKind) : kindEq k k = true := by rw [zaT]; simp
theorem eqI_self (n : Int) : eqI n n = true := by rw [eqI_eq]; simp
theorem base_same (n : Nat) (v : AV) (h : baseV v = true) : sameVF (n + 1) v v = true := by
 cases v <;> simp only [baseV, Bool.false_eq_true] at h <;> try rfl
 ·rename_i b; cases b <;> rfl
 ·rename_i k m
  show (kindEq k k && eqI m m) = true
  rw [kind_self, eqI_self]; rfl
 ·rename_i s; exact eqS_self s
 ·rename_i a b c d
  show (Nat.beq a a && Nat.beq b b && Nat.beq c c && Nat.beq d d) = true
  simp [nbeq]
 ·rename_i a b c d e f g
  cases g with
  | none =>
   show (Nat.beq a a && Nat.beq b b && Nat.beq c c && Nat.beq d d && Nat.beq e e && Nat.beq f f) = true
   simp [nbeq]
  | some g =>
   show (Nat.beq a a && Nat.beq b b && Nat.beq c c && Nat.beq d d && Nat.beq e e && Nat.beq f f && Nat.beq g g) = true
   simp [nbeq]
 ·rename_i a
  show Nat.beq a a = true
  simp [nbeq]
theorem baseL_same (n : Nat) : ∀ l : List AV, baseL l = true → sameLs (n + 1) l l = true
 | [], _ => rfl
 | x :: l, h => by
  simp only [baseL, Bool.and_eq_true] at h
  show cond (sameVF (n + 1) x x) (sameLs (n + 1) l l) false = true
  rw [base_same n x h.1, baseL_same n l h.2]; rfl
theorem okV_same (v : AV) (h : okV v = true) : sameVF 8 v v = true := by
 have b : baseV v = true → sameVF 8 v v = true := base_same 7 v
 cases v <;> simp only [okV] at h <;> (try exact b h)
 ·rename_i t v
  show (Nat.beq t t && sameVF 7 v v) = true
  rw [base_same 6 v h]; simp [nbeq]
 ·exact baseL_same 6 _ h
 ·exact baseL_same 6 _ h
theorem okV_undef : okV .undef = true := rfl
noncomputable def stillB (ops : List Oper) : List Row → Bool
 | [] => true
 | r :: l => !isFresh r.cls && cond (isRead r.cls) (match r.o.dst with
  | some d => !memN d (seesL ops r.o) && allL (fun w => match w.o.dst with | some e => !Nat.beq e d && !memN e (seesL ops r.o) | none => true) l
  | none => false) true && stillB ops l
noncomputable def stillOk (cx : Cx) (n : Nat) (ops : List Oper) : Bool :=
 planOk ops (settle (rowsL cx ops)) && stillB ops (settle (rowsL cx ops)) && dstRows n (settle (rowsL cx ops))
def stillP (cx : Cx) (ops : List Oper) : List Oper → Fr → AS → (Fr → Prop) → Prop
 | [], F, _, Q => Q F
 | o :: l, F, S, Q => stepP cx ops o F S fun v S' => S' = S ∧ okV v = true ∧ stillP cx ops l (up F o.dst v) S Q
def skont (cx : Cx) (ops l : List Oper) (F : Fr) (d : Option Nat) (S : AS) (Q : Fr → Prop) (v : AV) (S' : AS) : Prop := S' = S ∧ okV v = true ∧ stillP cx ops l (up F d v) S Q
theorem stillP_nil {cx : Cx} {ops : List Oper} {F : Fr} {S : AS} {Q : Fr → Prop} : stillP cx ops [] F S Q = Q F := rfl
theorem stillP_cons {cx : Cx} {ops : List Oper} {o : Oper} {l : List Oper} {F : Fr} {S : AS} {Q : Fr → Prop} : stillP cx ops (o :: l) F S Q = stepP cx ops o F S (skont cx ops l F o.dst S Q) := rfl
theorem skont_app {cx : Cx} {ops l : List Oper} {F : Fr} {d : Option Nat} {S : AS} {Q : Fr → Prop} {v : AV} : skont cx ops l F d S Q v S = (okV v = true ∧ stillP cx ops l (up F d v) S Q) := by
 unfold skont; simp
theorem val?_ne {r : Option AV} {S S' : AS} {n : Nat} {f : FuncId} {l : List AV} (h : val? r S n = .enter f l S') : False := by
 cases r <;> cases h
theorem aop_stays {cx : Cx} {F : Fr} {S S' : AS} {o : Oper} {f : FuncId} {l : List AV} (hc : clsOf cx o = .pure ∨ clsOf cx o = .read) (h : aop cx F S o = .enter f l S') : False := by
 obtain ⟨dst, op, ty, pos, after, guard⟩ := o
 cases op <;> simp only [clsOf, reduceCtorEq, or_self] at hc <;> simp only [aop] at h
 case move x => cases h
 case assign x => cases h
 case pick c a b => split at h <;> cases h
 case build t parts => exact val?_ne h
 case load t x =>
  split at h
  ·repeat (split at h <;> try (cases h; done))
  ·split at h
   ·exact val?_ne h
   ·cases h
  ·cases h
 case typeAssert x a b ok => exact val?_ne h
 case nilCheck x => split at h <;> cases h
 case binOp op t x y yt => exact val?_ne h
 case unOp op t x => exact val?_ne h
 case convert s d x =>
  simp only [Bool.cond_eq_ite] at h
  repeat' split at h
  all_goals first | (cases h; done) | exact val?_ne h
 case makeInterface t x => split at h <;> cases h
 case makeFunc fn a b => cases h
 case slice t x lo hi mx => exact val?_ne h
 case fieldAddr t x f => repeat (split at h <;> try (cases h; done))
 case field t x f =>
  split at h
  ·split at h
   ·exact val?_ne h
   ·cases h
  ·cases h
 case indexAddr t x i =>
  split at h
  ·split at h
   ·cases hc : (Nat.beq _ _ && Nat.blt _ _) with
    | false => rw [hc] at h; cases h
    | true => rw [hc] at h; cases h
   ·cases h
  ·split at h
   ·cases hc : Nat.blt _ _ with
    | false => rw [hc] at h; cases h
    | true => rw [hc] at h; cases h
   ·cases h
  ·split at h
   ·cases hc : Nat.blt _ _ with
    | false => rw [hc] at h; cases h
    | true => rw [hc] at h; cases h
   ·cases h
  ·cases h
 case index t x i =>
  split at h
  ·split at h <;> cases h
  ·split at h
   ·cases hc : Nat.blt _ _ with
    | false => rw [hc] at h; cases h
    | true => rw [hc] at h; exact val?_ne h
   ·cases h
  ·cases h
 case lookup t x i ok => exact val?_ne h
 case extract x i =>
  split at h
  ·exact val?_ne h
  ·cases h
 case call c =>
  obtain ⟨callee, as, ats⟩ := c
  cases callee with
  | value f => simp at hc
  | invoke r m => simp at hc
  | builtin b =>
   have hb : b = .len ∨ b = .cap ∨ b = .min ∨ b = .max := by cases b <;> simp_all
   simp only [] at h
   unfold builtinV at h
   rcases hb with rfl | rfl | rfl | rfl <;> clear hc <;> split at h <;> (try contradiction) <;> (try (cases h; done))
   ·split at h <;> first | (cases h) | (cases h; done)
   ·split at h <;> first | (cases h) | (cases h; done)
   ·exact val?_ne h
   ·exact val?_ne h
theorem aop_val_of {cx : Cx} {F : Fr} {S : AS} {o : Oper} {K : AV → AS → Prop} (hc : clsOf cx o = .pure ∨ clsOf cx o = .read) (h : runP cx (aop cx F S o) K) : ∃ v S', aop cx F S o = .val v S' := by
 cases ha : aop cx F S o with
 | val v S' => exact ⟨v, S', rfl⟩
 | enter f l S' => exact (aop_stays hc ha).elim
 | err n => rw [ha] at h; exact h.elim
 | round f l S' => rw [ha] at h; exact h.elim
 | pan v S' => rw [ha] at h; exact h.elim
 | many l => rw [ha] at h; exact h.elim
theorem zbH {cx : Cx} {ops : List Oper} : ∀ {l : List Row} {F : Fr} {S : AS} {ps : List Pend} {sn : List AS} {id : Nat} {Q Q' : Fr → AS → List AS → Prop}, rowsP cx ops l F S ps sn id Q → (∀ F' S' sn', Q F' S' sn' → Q' F' S' sn') → rowsP cx ops l F S ps sn id Q'
 | [], _, _, _, _, _, _, _, h, k => k _ _ _ h
 | r :: l, F, S, ps, sn, id, Q, Q', h, k => by
  cases hc : r.cls with
  | fresh =>
   rw [rowsP, hc] at h ⊢
   simp only [] at h ⊢
   cases hw : wantS ops F r.o.guard with
   | none => rw [hw] at h; exact h
   | some b =>
    rw [hw] at h
    refine ⟨fun hb => ?_, fun hb => zbH (h.2 hb) k⟩
    obtain ⟨v, x, h1, h2⟩ := h.1 hb
    exact ⟨v, x, h1, zbH h2 k⟩
  | eff =>
   rw [rowsP, hc] at h ⊢
   simp only [] at h ⊢
   exact stepP_mono h fun _ _ h' => zbH h' k
  | pure =>
   rw [rowsP, hc] at h ⊢
   simp only [] at h ⊢
   cases hw : wantS ops F r.o.guard with
   | none => rw [hw] at h; exact h
   | some b =>
    rw [hw] at h
    refine ⟨fun hb => ?_, fun hb => zbH (h.2 hb) k⟩
    obtain ⟨v, x, h1, h2⟩ := h.1 hb
    exact ⟨v, x, h1, zbH h2 k⟩
  | read =>
   rw [rowsP, hc] at h ⊢
   simp only [] at h ⊢
   cases hw : wantS ops F r.o.guard with
   | none => rw [hw] at h; exact h
   | some b =>
    rw [hw] at h
    refine ⟨fun hb => ?_, fun hb => zbH (h.2 hb) k⟩
    obtain ⟨v, x, h1, h2⟩ := h.1 hb
    exact ⟨v, x, h1, zbH h2 k⟩
theorem memN_mem (n : Nat) : ∀ l : List Nat, memN n l = true ↔ n ∈ l
 | [] => by show (false = true) ↔ _; simp
 | m :: l => by
  show cond (Nat.beq n m) true (memN n l) = true ↔ _
  rw [nbeq]
  have ih := memN_mem n l
  by_cases h : n = m
  ·simp [h]
  ·simp [h, ih]
theorem allL_all {α : Type} (p : α → Bool) : ∀ l : List α, allL p l = true ↔ ∀ x, x ∈ l → p x = true
 | [] => by show (true = true) ↔ _; simp
 | x :: l => by
  show cond (p x) (allL p l) false = true ↔ _
  have ih := allL_all p l
  cases h : p x <;> simp [h, ih]
theorem get_up_ne {F : Fr} {d : Option Nat} {t : Nat} {v : AV} (h : d ≠ some t) : (up F d v).t.get t = F.t.get t := by
 cases d with
 | none => rfl
 | some d => exact gsN _ _ (fun e => h (by rw [e]))
theorem get_up_same {F : Fr} {d : Nat} {v : AV} : (up F (some d) v).t.get d = some v := gsS _ _ _
structure Still (cx : Cx) (ops : List Oper) (l : List Row) (F : Fr) (S : AS) (sn : List AS) (F' : Fr) (S' : AS) (sn' : List AS) : Prop where
 mem : S' = S
 sns : ∀ T, T ∈ sn' → T = S ∨ T ∈ sn
 n : F'.n = F.n
 keep : ∀ t, (∀ r, r ∈ l → r.o.dst ≠ some t) → F'.t.get t = F.t.get t
 read : ∀ q, q ∈ l → isRead q.cls = true → ∃ d v, q.o.dst = some d ∧ F'.t.get d = some v ∧ okV v = true ∧ oneV cx ops F' S q.o = some v
theorem still_rows {cx : Cx} {ops : List Oper} : ∀ {l : List Row} {F : Fr} {S : AS} {sn : List AS} {id : Nat} {Q : Fr → Prop}, stillB ops l = true → (∀ r, r ∈ l → (r.cls = .pure ∨ r.cls = .read) → clsOf cx r.o = r.cls) →
  stillP cx ops (l.map (·.o)) F S Q → rowsP cx ops l F S [] sn id fun F' S' sn' => Still cx ops l F S sn F' S' sn' ∧ Q F'
 | [], F, S, sn, id, Q, _, _, h => ⟨⟨rfl, fun T hT => by
   rcases List.mem_cons.1 hT with e | e
   ·exact .inl e
   ·exact .inr e, rfl, fun _ _ => rfl, fun q hq => by cases hq⟩, h⟩
 | r :: l, F, S, sn, id, Q, hb, hc, h => by
  simp only [stillB, Bool.and_eq_true] at hb
  obtain ⟨⟨hf, hr⟩, hl⟩ := hb
  have h' : stepP cx ops r.o F S fun v S' => S' = S ∧ okV v = true ∧ stillP cx ops (l.map (·.o)) (up F r.o.dst v) S Q := h
  have hcl : ∀ r', r' ∈ l → (r'.cls = .pure ∨ r'.cls = .read) → clsOf cx r'.o = r'.cls := fun r' hr' => hc r' (List.mem_cons_of_mem _ hr')
  have rest : ∀ (v : AV) (sn1 : List AS), (∀ T, T ∈ sn1 → T = S ∨ T ∈ sn) → okV v = true → stillP cx ops (l.map (·.o)) (up F r.o.dst v) S Q → (isRead r.cls = true → oneV cx ops F S r.o = some v) →
    rowsP cx ops l (up F r.o.dst v) S [] sn1 id fun F' S' sn' => Still cx ops (r :: l) F S sn F' S' sn' ∧ Q F' := by
   intro v sn1 hs hv hk ho
   refine zbH (still_rows (sn := sn1) hl hcl hk) ?_
   rintro F' S' sn' ⟨⟨k1, k2, k3, k4, k5⟩, hq⟩
   refine ⟨⟨k1, fun T hT => ?_, k3.trans (n_up _ _ _), fun t ht => ?_, fun q hq hqr => ?_⟩, hq⟩
   ·rcases k2 T hT with e | e
    ·exact .inl e
    ·exact hs T e
   ·rw [k4 t fun r' hr' => ht r' (List.mem_cons_of_mem _ hr'), get_up_ne (ht r (List.mem_cons_self ..))]
   ·rcases List.mem_cons.1 hq with rfl | hq
    ·rw [hqr] at hr
     simp only [cond_true] at hr
     cases hd : q.o.dst with
     | none => rw [hd] at hr; cases hr
     | some d =>
      rw [hd] at hr
      simp only [Bool.and_eq_true, Bool.not_eq_true'] at hr
      obtain ⟨h1, h2⟩ := hr
      rw [allL_all] at h2
      have hmem : ∀ t, t ∈ seesL ops q.o → memN t (seesL ops q.o) = true := fun t ht => (memN_mem _ _).2 ht
      have hkeep : ∀ t, (t = d ∨ t ∈ seesL ops q.o) → ∀ r', r' ∈ l → r'.o.dst ≠ some t := by
       intro t ht r' hr' e
       have := h2 r' hr'
       rw [e] at this
       simp only [nbeq, Bool.and_eq_true, Bool.not_eq_true', decide_eq_false_iff_not] at this
       rcases ht with rfl | ht
       ·exact this.1 rfl
       ·rw [hmem t ht] at this; cases this.2
      refine ⟨d, v, rfl, ?_, hv, ?_⟩
      ·rw [k4 d (hkeep d (.inl rfl)), hd, get_up_same]
      ·rw [← ho hqr]
       refine zcH fun t ht => ?_
       rw [k4 t (hkeep t (.inr ht)), get_up_ne]
       rw [hd]
       intro e
       cases e
       rw [hmem _ ht] at h1
       cases h1
    ·exact k5 q hq hqr
  cases hcls : r.cls with
  | fresh => rw [hcls] at hf; cases hf
  | eff =>
   rw [rowsP, hcls]
   simp only []
   refine stepP_mono (show stepP cx ops r.o F S _ from h') ?_
   rintro v S' ⟨rfl, hv, hk⟩
   exact rest v _ (fun T hT => by
    rcases List.mem_cons.1 hT with e | e
    ·exact .inl e
    ·exact .inr e) hv hk (fun e => by rw [hcls] at e; cases e)
  | pure =>
   rw [rowsP, hcls]
   simp only []
   unfold stepP at h'
   cases hw : wantS ops F r.o.guard with
   | none => rw [hw] at h'; exact h'
   | some b =>
    rw [hw] at h'
    refine ⟨fun hb => ?_, fun hb => ?_⟩
    ·have h1 := h'.1 hb
     obtain ⟨v, S', ha⟩ : ∃ v S', aop cx F S r.o = .val v S' := aop_val_of (.inl (hc r (List.mem_cons_self ..) (.inl hcls) |>.trans hcls)) h1
     rw [ha] at h1
     exact ⟨v, S', ha, rest v sn (fun T hT => .inr hT) h1.2.1 h1.2.2 (fun e => by rw [hcls] at e; cases e)⟩
    ·have h1 := h'.2 hb
     exact rest _ sn (fun T hT => .inr hT) h1.2.1 h1.2.2 (fun e => by rw [hcls] at e; cases e)
  | read =>
   rw [rowsP, hcls]
   simp only []
   unfold stepP at h'
   cases hw : wantS ops F r.o.guard with
   | none => rw [hw] at h'; exact h'
   | some b =>
    rw [hw] at h'
    refine ⟨fun hb => ?_, fun hb => ?_⟩
    ·have h1 := h'.1 hb
     obtain ⟨v, S', ha⟩ : ∃ v S', aop cx F S r.o = .val v S' := aop_val_of (.inr (hc r (List.mem_cons_self ..) (.inr hcls) |>.trans hcls)) h1
     rw [ha] at h1
     refine ⟨v, S', ha, rest v sn (fun T hT => .inr hT) h1.2.1 h1.2.2 fun _ => ?_⟩
     rw [oneV_eq, hw, hb]
     simp only [ha]
    ·have h1 := h'.2 hb
     refine rest _ sn (fun T hT => .inr hT) h1.2.1 h1.2.2 fun _ => ?_
     rw [oneV_eq, hw, hb]
theorem still_ok {cx : Cx} {ops : List Oper} {F : Fr} {S : AS} {Q : Fr → AS → Prop} {n : Nat} (hk : stillOk cx n ops = true) (hn : F.n = n) (h : stillP cx ops ops F S fun F' => Q F' S) : drawnP cx ops F S Q := by
 unfold stillOk at hk
 simp only [Bool.and_eq_true] at hk
 obtain ⟨⟨h1, h2⟩, h3⟩ := hk
 subst hn
 have hp := plan_rows cx ops.toArray
 simp only [List.toList_toArray] at hp
 obtain ⟨pl, pc⟩ := hp
 have hmap : (settle (rowsL cx ops)).map (·.o) = ops := by
  apply List.ext_getElem?
  intro i
  rw [List.getElem?_map]
  cases hi : (settle (rowsL cx ops))[i]? with
  | none =>
   have hlen := pl.len
   simp only [List.size_toArray] at hlen
   rw [List.getElem?_eq_none_iff] at hi
   simp only [Option.map_none]
   exact (List.getElem?_eq_none_iff.2 (by omega)).symm
  | some r =>
   have := (pl.row i r hi).2
   simp only [List.getElem?_toArray] at this
   simp [this]
 have hnf : ∀ l : List Row, stillB ops l = true → freshN l = 0 := by
  intro l
  induction l with
  | nil => intro _; rfl
  | cons r l ih =>
   intro hb
   simp only [stillB, Bool.and_eq_true] at hb
   show cond (isFresh r.cls) (Nat.succ (freshN l)) (freshN l) = 0
   have hf : isFresh r.cls = false := by simpa using hb.1.1
   rw [hf, ih hb.2]; rfl
 refine ⟨?_⟩
 unfold drawnP0 planR
 rw [h1]
 simp only [cond_true]
 rw [hnf _ h2]
 refine zbH (still_rows (S := S) (sn := []) h2 (fun r hr hc => ?_) (by rw [hmap]; exact h)) ?_
 ·obtain ⟨i, hi⟩ := List.getElem?_of_mem hr
  exact pc i r hi hc
 ·rintro F' S' sn ⟨hs, hq⟩
  obtain ⟨rfl, k2, k3, _, k5⟩ := hs
  refine ⟨fun q hqm hqr => ?_, hq⟩
  obtain ⟨d, v, e1, e2, e3, e4⟩ := k5 q hqm hqr
  have hd : d < F'.n := by
   rw [k3]
   have := List.all_eq_true.1 h3 q hqm
   unfold dst1 at this
   rw [e1] at this
   simpa [nblt] using this
  unfold windowOk
  have hall : ∀ T, T ∈ takeN (Nat.succ (Nat.sub (countL (fun e => !bit e.bef q.i) (filL (fun e => isEff e.cls) (settle (rowsL cx ops)))) (countL (fun e => bit q.bef e.i) (filL (fun e => isEff e.cls) (settle (rowsL cx ops)))))) (dropN (countL (fun e => bit q.bef e.i) (filL (fun e => isEff e.cls) (settle (rowsL cx ops)))) (revL sn)) → T = S' := by
   intro T hT
   rw [zaO, zaS] at hT
   have := List.mem_of_mem_drop (List.mem_of_mem_take hT)
   rw [revL_eq, List.mem_reverse] at this
   rcases k2 T this with e | e
   ·exact e
   ·cases e
  simp only []
  split
  ·rfl
  ·simp only [e1, nblt, hd, decide_true, cond_true, e2]
   rw [allL_all]
   intro T hT
   rw [hall T hT, e4]
   exact okV_same v e3
end Go.Am
