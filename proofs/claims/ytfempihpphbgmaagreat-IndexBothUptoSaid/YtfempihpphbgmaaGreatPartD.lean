/-
  Maps by numbers and by names, of which the order of being born is known; the context in which the index is called.
-/
import Derived.Test.YtfempihpphbgmaaGreatPartC
noncomputable section
namespace Go.Proofs.YtfempihpphbgmaaGreat.idx
open Go Go.Am Go.Proofs.YtfempihpphbgmaaGreat.mod
set_option linter.unusedVariables false
set_option linter.unusedSimpArgs false
abbrev A1 : Am.Ask := { eqs := [50, 65], exts := [(132, .cmpstr)], prims := [(14, boolQ true), (31, ins.q31), (34, ins.q34), (46, q46)] }
abbrev C1 : Am.Cx := Am.mkCx Tryz.prog A1
theorem ple1 : PLe C0.prims C1.prims := by
 have e0 : C0.prims = (((T.leaf.set 14 (boolQ true)).set 31 hole).set 34 hole).set 46 hole := rfl
 have e1 : C1.prims = (((T.leaf.set 14 (boolQ true)).set 31 ins.q31).set 34 ins.q34).set 46 q46 := rfl
 rw [e0, e1]
 exact (((PLe.refl _).hole 31 _).hole 34 _).hole 46 _
theorem up1 {f : FuncId} {vs : List AV} {S : AS} {Q : AV → AS → Prop} (h : CallW C0 f vs S Q) : CallW C1 f vs S Q :=
 CallW.to (P := Tryz.prog) (A := A0) (A' := A1) rfl rfl rfl rfl ple1 h
theorem ex1 (f : Nat) (h : (f == 132) = false) : C1.exts.get f = none := by
 have h1 : ¬ f = 132 := by simpa using h
 show ((T.leaf : T Xf).set 132 .cmpstr).get f = none
 rw [gsN _ _ h1]; exact zaX f
theorem pr1 (f : Nat) (h : (f == 14 || f == 31 || f == 34 || f == 46) = false) : C1.prims.get f = none := by
 simp only [Bool.or_eq_false_iff, beq_eq_false_iff_ne] at h
 show (((((T.leaf : T (List AV → AS → Option (AV × AS))).set 14 (boolQ true)).set 31 ins.q31).set 34 ins.q34).set 46 q46).get f = none
 rw [gsN _ _ h.2, gsN _ _ h.1.2, gsN _ _ h.1.1.2, gsN _ _ h.1.1.1]; exact zaX f
theorem pu1 (f : Nat) : C1.pures.get f = none := zaX f
theorem get31 : C1.prims.get 31 = some ins.q31 := by
 show (((((T.leaf : T (List AV → AS → Option (AV × AS))).set 14 (boolQ true)).set 31 ins.q31).set 34 ins.q34).set 46 q46).get 31 = _
 rw [gsN _ _ (by decide), gsN _ _ (by decide)]; exact gsS _ _ _
theorem get34 : C1.prims.get 34 = some ins.q34 := by
 show (((((T.leaf : T (List AV → AS → Option (AV × AS))).set 14 (boolQ true)).set 31 ins.q31).set 34 ins.q34).set 46 q46).get 34 = _
 rw [gsN _ _ (by decide)]; exact gsS _ _ _
theorem get46 : C1.prims.get 46 = some q46 := by
 show (((((T.leaf : T (List AV → AS → Option (AV × AS))).set 14 (boolQ true)).set 31 ins.q31).set 34 ins.q34).set 46 q46).get 46 = _
 exact gsS _ _ _
theorem get14 : C1.prims.get 14 = some (boolQ true) := by
 show (((((T.leaf : T (List AV → AS → Option (AV × AS))).set 14 (boolQ true)).set 31 ins.q31).set 34 ins.q34).set 46 q46).get 14 = _
 rw [gsN _ _ (by decide), gsN _ _ (by decide), gsN _ _ (by decide)]; exact gsS _ _ _
theorem awake14 {S : AS} {Q : AV → AS → Prop} : CallW C1 14 [] S Q = Q (.bool true) S := callW_prim (q := boolQ true) get14 rfl rfl rfl
theorem keyStr : KeyE .string (fun s : List Nat => AV.str s) :=
 ⟨fun a b => by
  show some (eqS a b) = _
  rw [eqS_eq], fun _ => rfl⟩
theorem keyNum : KeyE (.int .u64) (fun n : Nat => AV.int .u64 (n : Int)) :=
 ⟨fun a b => by
  show cond (kindEq .u64 .u64) (some (eqI (a : Int) (b : Int))) none = _
  rw [kind_self, cond_true, eqI_eq]
  have e : ((a : Int) = (b : Int)) ↔ a = b := by omega
  simp [e], fun _ => rfl⟩
def mdel {κ : Type} [DecidableEq κ] : List (κ × AV) → κ → List (κ × AV)
 | [], _ => []
 | (a, w) :: m, k => if k = a then m else (a, w) :: mdel m k
def MpW {κ : Type} (S : AS) (id : Nat) (enc : κ → AV) (m : List (κ × AV)) : Prop :=
 ∃ es clock, S.h.get id = some (.map es clock) ∧ es.map (fun e => (e.key, e.val)) = m.map (fun p => (enc p.1, p.2)) ∧ MapWf es clock
theorem MpW.mp {κ : Type} {enc : κ → AV} {m : List (κ × AV)} {S : AS} {id : Nat} (h : MpW S id enc m) (hl : id < S.next) : Mp S (.map id) enc m := by
 obtain ⟨es, clock, h1, h2, _⟩ := h
 exact ⟨id, es, clock, rfl, hl, h1, h2⟩
theorem MpW.agree {κ : Type} {enc : κ → AV} {m : List (κ × AV)} {S : AS} {id : Nat} {T : AS} (h : MpW S id enc m) (hs : T.h.get id = S.h.get id) : MpW T id enc m := by
 obtain ⟨es, clock, h1, h2, h3⟩ := h
 exact ⟨es, clock, hs.trans h1, h2, h3⟩
theorem setNth_born {es : List AEnt} : ∀ (j : Nat) (k v : AV) (e : AEnt), es[j]? = some e → (setNth j es ⟨k, v, e.born⟩).map AEnt.born = es.map AEnt.born := by
 induction es with
 | nil => intro j k v e h; simp at h
 | cons z es ih =>
  intro j k v e h
  cases j with
  | zero =>
   simp at h; subst h
   show List.map AEnt.born ((⟨k, v, z.born⟩ : AEnt) :: es) = _
   rfl
  | succ j =>
   show List.map AEnt.born (z :: setNth j es ⟨k, v, e.born⟩) = _
   simp only [List.map_cons, List.cons.injEq, true_and]
   exact ih j k v e (by simpa using h)
theorem mapWf_born {es es' : List AEnt} {clock : Nat} (h : es'.map AEnt.born = es.map AEnt.born) (hw : MapWf es clock) : MapWf es' clock := by
 have e1 : ∀ (l : List AEnt), MapWf l clock ↔ (∀ b, b ∈ l.map AEnt.born → b < clock) ∧ (l.map AEnt.born).Pairwise (· ≠ ·) := fun l => by
  unfold MapWf
  rw [List.pairwise_map]
  simp
 rw [e1] at hw ⊢
 rw [h]; exact hw
theorem findE_at {d : TypeDesc} {k : AV} : ∀ (es : List AEnt) (i j : Nat) (e : AEnt), findE d k es i = some (some (i + j, e)) → es[j]? = some e
 | [], i, j, e, h => by cases h
 | z :: es, i, j, e, h => by
  have u : findE d k (z :: es) i = (match sameK d k z.key with | some true => some (some (i, z)) | some false => findE d k es (Nat.succ i) | none => none) := rfl
  rw [u] at h
  cases hs : sameK d k z.key with
  | none => rw [hs] at h; cases h
  | some b =>
   cases b with
   | true =>
    rw [hs] at h
    simp only [Option.some.injEq, Prod.mk.injEq] at h
    obtain ⟨h1, rfl⟩ := h
    have : j = 0 := by omega
    subst this
    rfl
   | false =>
    rw [hs] at h
    simp only [] at h
    have mono : ∀ (es : List AEnt) (i q : Nat) (e : AEnt), findE d k es i = some (some (q, e)) → i ≤ q := by
     intro es
     induction es with
     | nil => intro i q e h; cases h
     | cons y es ih =>
      intro i q e h
      have u : findE d k (y :: es) i = (match sameK d k y.key with | some true => some (some (i, y)) | some false => findE d k es (Nat.succ i) | none => none) := rfl
      rw [u] at h
      cases hy : sameK d k y.key with
      | none => rw [hy] at h; cases h
      | some b =>
       cases b with
       | true => rw [hy] at h; simp only [Option.some.injEq, Prod.mk.injEq] at h; omega
       | false => rw [hy] at h; have := ih _ _ _ h; omega
    have hm := mono es _ _ _ h
    cases j with
    | zero => have : i + 1 ≤ i + 0 := hm; omega
    | succ j =>
     have h2 : findE d k es (i + 1) = some (some (i + 1 + j, e)) := by rw [show i + 1 + j = i + (j + 1) by omega]; exact h
     have h3 := findE_at es (i + 1) j e h2
     simpa using h3
section
variable {κ : Type} [DecidableEq κ] {enc : κ → AV} {m : List (κ × AV)} {S : AS} {id : Nat}
theorem update_mpw {cx : Cx} {t : TypeId} {p : TypeDesc × AV} {v : AV} {k : κ} (h : mapK cx t = some p) (hk : KeyE p.1 enc) (hm : MpW S id enc m) :
  ∃ T, updateV cx S t (.map id) (enc k) v = some (.undef, T) ∧ MpW T id enc (mput m k v) ∧ (∀ j, j ≠ id → T.h.get j = S.h.get j) ∧ T.next = S.next := by
 obtain ⟨kt, et, h1, h2, h3⟩ := mapK_und h
 obtain ⟨es, clock, h5, h6, h7⟩ := hm
 unfold updateV
 simp only [h1, h2, hk.plain, cond_true, h5]
 rcases findE_of hk k v clock es m 0 h6 with ⟨j, e, g1, _, _, g4⟩ | ⟨g1, _, g3⟩
 ·rw [g1]
  simp only [Nat.zero_add]
  have he := findE_at es 0 j e g1
  exact ⟨_, rfl, ⟨_, _, gsS _ _ _, g4, mapWf_born (setNth_born j _ _ e he) h7⟩, fun i hi => gsN _ _ hi, rfl⟩
 ·rw [g1]
  refine ⟨_, rfl, ⟨_, _, gsS _ _ _, g3, ?_, ?_⟩, fun i hi => gsN _ _ hi, rfl⟩
  ·intro e he
   rw [zaK] at he
   rcases List.mem_append.1 he with he | he
   ·exact Nat.lt_succ_of_lt (h7.1 e he)
   ·simp at he; subst he; exact Nat.lt_succ_self _
  ·rw [zaK, List.pairwise_append]
   refine ⟨h7.2, by simp, fun a ha b hb => ?_⟩
   simp at hb; subst hb
   have := h7.1 a ha
   simp; omega
theorem findE_del {d : TypeDesc} (hk : KeyE d enc) (k : κ) : ∀ (es : List AEnt) (m : List (κ × AV)) (i : Nat), es.map (fun e => (e.key, e.val)) = m.map (fun p => (enc p.1, p.2)) →
  (∃ j e, findE d (enc k) es i = some (some (i + j, e)) ∧ (eraseN j es).map (fun e => (e.key, e.val)) = (mdel m k).map (fun p => (enc p.1, p.2))) ∨
  (findE d (enc k) es i = some none ∧ mdel m k = m)
 | [], m, i, h => by
  cases m with
  | nil => exact .inr ⟨rfl, rfl⟩
  | cons p m => simp at h
 | e :: es, m, i, h => by
  cases m with
  | nil => simp at h
  | cons p m =>
   obtain ⟨a, w⟩ := p
   simp only [List.map_cons, List.cons.injEq, Prod.mk.injEq] at h
   obtain ⟨⟨h1, h2⟩, h3⟩ := h
   have hs : findE d (enc k) (e :: es) i = (match sameK d (enc k) e.key with | some true => some (some (i, e)) | some false => findE d (enc k) es (Nat.succ i) | none => none) := rfl
   rw [hs, h1, hk.same]
   by_cases hka : k = a
   ·subst hka
    refine .inl ⟨0, e, by simp, ?_⟩
    show es.map _ = _
    simp [mdel, h3]
   ·rcases findE_del hk k es m (i + 1) h3 with ⟨j, e', g1, g2⟩ | ⟨g1, g2⟩
    ·refine .inl ⟨j + 1, e', ?_, ?_⟩
     ·have : (i + 1 + j, e') = (i + (j + 1), e') := by rw [Nat.add_assoc, Nat.add_comm 1 j]
      simp only [hka, decide_false]
      rw [← this]; exact g1
     ·show (e :: eraseN j es).map _ = _
      simp [mdel, hka, g2, h1, h2]
    ·exact .inr ⟨by simp only [hka, decide_false]; exact g1, by simp [mdel, hka, g2]⟩
theorem eraseN_sub {α : Type} : ∀ (j : Nat) (l : List α), (eraseN j l).Sublist l
 | _, [] => by
  rename_i j
  cases j <;> exact List.Sublist.refl _
 | 0, x :: l => List.sublist_cons_self x l
 | j + 1, x :: l => List.Sublist.cons_cons x (eraseN_sub j l)
theorem delete_mpw {cx : Cx} {t : TypeId} {p : TypeDesc × AV} {k : κ} (h : mapK cx t = some p) (hk : KeyE p.1 enc) (hm : MpW S id enc m) :
  ∃ T, deleteV cx S t (.map id) (enc k) = some (.undef, T) ∧ MpW T id enc (mdel m k) ∧ (∀ j, j ≠ id → T.h.get j = S.h.get j) ∧ T.next = S.next := by
 obtain ⟨kt, et, h1, h2, h3⟩ := mapK_und h
 obtain ⟨es, clock, h5, h6, h7⟩ := hm
 unfold deleteV
 simp only [h1, h2, hk.plain, cond_true, h5]
 rcases findE_del hk k es m 0 h6 with ⟨j, e, g1, g4⟩ | ⟨g1, g3⟩
 ·rw [g1]
  simp only [Nat.zero_add]
  exact ⟨_, rfl, ⟨_, _, gsS _ _ _, g4, fun e he => h7.1 e ((eraseN_sub j es).subset he), h7.2.sublist (eraseN_sub j es)⟩, fun i hi => gsN _ _ hi, rfl⟩
 ·rw [g1]
  exact ⟨_, rfl, ⟨_, _, gsS _ _ _, by rw [g3]; exact h6, h7⟩, fun i hi => gsN _ _ hi, rfl⟩
end
structure Ev where
 n : Nat
 key : List Nat
 u : AV
 atts : List Att
def Ev.v (e : Ev) : AV := .agg [.str e.key, e.u]
structure Nm where
 name : List Nat
 id : Nat
 g : Nat
 L : List Ent
def Nm.v (m : Nm) : AV := .slice m.id m.g 0 m.L.length (m.L.length * 5) 5 none
structure XI where
 x : Nat
 me : Nat
 mn : Nat
 evs : List Ev
 nms : List Nm
 k : Nat
def XI.foot (X : XI) (id : Nat) : Prop := id = X.x ∨ id = X.me ∨ id = X.mn ∨ (∃ m, m ∈ X.nms ∧ id = m.id) ∨ ∃ e, e ∈ X.evs ∧ bnd e.u = id + 1
def XI.wf (X : XI) (id : Nat) : Prop := id = X.me ∨ id = X.mn ∨ ∃ m, m ∈ X.nms ∧ id = m.id
theorem XI.wf_foot {X : XI} {id : Nat} (h : X.wf id) : X.foot id := by
 rcases h with h | h | h
 ·exact .inr (.inl h)
 ·exact .inr (.inr (.inl h))
 ·exact .inr (.inr (.inr (.inl h)))
def putM : List Nm → Nm → List Nm
 | [], m => [m]
 | a :: l, m => if m.name = a.name then m :: l else a :: putM l m
def delM : List Nm → List Nat → List Nm
 | [], _ => []
 | a :: l, s => if s = a.name then l else a :: delM l s
def delE : List Ev → Nat → List Ev
 | [], _ => []
 | a :: l, n => if n = a.n then l else a :: delE l n
def nmP (m : Nm) : List Nat × AV := (m.name, m.v)
def evP (e : Ev) : Nat × AV := (e.n, e.v)
theorem putM_map (m : Nm) : ∀ l : List Nm, (putM l m).map nmP = mput (l.map nmP) m.name m.v
 | [] => rfl
 | a :: l => by
  have ih := putM_map m l
  by_cases h : m.name = a.name
  ·simp [putM, mput, nmP, h]
  ·simp only [putM, h, if_false, List.map_cons, nmP, mput, ih]
theorem delM_map (s : List Nat) : ∀ l : List Nm, (delM l s).map nmP = mdel (l.map nmP) s
 | [] => rfl
 | a :: l => by
  have ih := delM_map s l
  by_cases h : s = a.name
  ·simp [delM, mdel, nmP, h]
  ·simp [delM, mdel, nmP, h]
   exact ih
theorem delE_map (n : Nat) : ∀ l : List Ev, (delE l n).map evP = mdel (l.map evP) n
 | [] => rfl
 | a :: l => by
  have ih := delE_map n l
  by_cases h : n = a.n
  ·simp [delE, mdel, evP, h]
  ·simp [delE, mdel, evP, h]
   exact ih
theorem mem_putM {m : Nm} : ∀ {l : List Nm}, l.Pairwise (fun a b => a.name ≠ b.name) → ∀ a, a ∈ putM l m ↔ a = m ∨ (a ∈ l ∧ a.name ≠ m.name)
 | [], _, a => by simp [putM]
 | b :: l, h, a => by
  obtain ⟨h1, h2⟩ := List.pairwise_cons.1 h
  have ih := mem_putM (m := m) h2 a
  unfold putM
  by_cases e : m.name = b.name
  ·simp only [if_pos e, List.mem_cons]
   constructor
   ·rintro (h | h)
    ·exact .inl h
    ·exact .inr ⟨.inr h, fun e2 => h1 a h (e.symm.trans e2.symm)⟩
   ·rintro (h | ⟨rfl | h, h3⟩)
    ·exact .inl h
    ·exact absurd e.symm h3
    ·exact .inr h
  ·simp only [if_neg e, List.mem_cons, ih]
   constructor
   ·rintro (rfl | h | ⟨h, h3⟩)
    ·exact .inr ⟨.inl rfl, fun e2 => e e2.symm⟩
    ·exact .inl h
    ·exact .inr ⟨.inr h, h3⟩
   ·rintro (h | ⟨rfl | h, h3⟩)
    ·exact .inr (.inl h)
    ·exact .inl rfl
    ·exact .inr (.inr ⟨h, h3⟩)
theorem mem_delM {s : List Nat} : ∀ {l : List Nm}, l.Pairwise (fun a b => a.name ≠ b.name) → ∀ a, a ∈ delM l s ↔ a ∈ l ∧ a.name ≠ s
 | [], _, a => by simp [delM]
 | b :: l, h, a => by
  obtain ⟨h1, h2⟩ := List.pairwise_cons.1 h
  have ih := mem_delM (s := s) h2 a
  unfold delM
  by_cases e : s = b.name
  ·simp only [if_pos e, List.mem_cons]
   constructor
   ·intro h
    exact ⟨.inr h, fun e2 => h1 a h (e.symm.trans e2.symm)⟩
   ·rintro ⟨rfl | h, h3⟩
    ·exact absurd e.symm h3
    ·exact h
  ·simp only [if_neg e, List.mem_cons, ih]
   constructor
   ·rintro (rfl | ⟨h, h3⟩)
    ·exact ⟨.inl rfl, fun e2 => e e2.symm⟩
    ·exact ⟨.inr h, h3⟩
   ·rintro ⟨rfl | h, h3⟩
    ·exact .inl rfl
    ·exact .inr ⟨h, h3⟩
theorem mem_delE {n : Nat} : ∀ {l : List Ev}, l.Pairwise (fun a b => a.n ≠ b.n) → ∀ a, a ∈ delE l n ↔ a ∈ l ∧ a.n ≠ n
 | [], _, a => by simp [delE]
 | b :: l, h, a => by
  obtain ⟨h1, h2⟩ := List.pairwise_cons.1 h
  have ih := mem_delE (n := n) h2 a
  unfold delE
  by_cases e : n = b.n
  ·simp only [if_pos e, List.mem_cons]
   constructor
   ·intro h
    exact ⟨.inr h, fun e2 => h1 a h (e.symm.trans e2.symm)⟩
   ·rintro ⟨rfl | h, h3⟩
    ·exact absurd e.symm h3
    ·exact h
  ·simp only [if_neg e, List.mem_cons, ih]
   constructor
   ·rintro (rfl | ⟨h, h3⟩)
    ·exact ⟨.inl rfl, fun e2 => e e2.symm⟩
    ·exact ⟨.inr h, h3⟩
   ·rintro ⟨rfl | h, h3⟩
    ·exact .inl rfl
    ·exact .inr ⟨h, h3⟩
theorem delM_sub (s : List Nat) : ∀ l : List Nm, (delM l s).Sublist l
 | [] => List.Sublist.refl _
 | a :: l => by
  unfold delM
  split
  ·exact List.sublist_cons_self a l
  ·exact List.Sublist.cons_cons a (delM_sub s l)
theorem delE_sub (n : Nat) : ∀ l : List Ev, (delE l n).Sublist l
 | [] => List.Sublist.refl _
 | a :: l => by
  unfold delE
  split
  ·exact List.sublist_cons_self a l
  ·exact List.Sublist.cons_cons a (delE_sub n l)
theorem pw_putM {R : Nm → Nm → Prop} {m : Nm} : ∀ {l : List Nm}, l.Pairwise (fun a b => a.name ≠ b.name) → l.Pairwise R → (∀ a, a ∈ l → a.name ≠ m.name → R a m ∧ R m a) → (putM l m).Pairwise R
 | [], _, _, _ => by simp [putM]
 | b :: l, hn, h, hr => by
  obtain ⟨n1, n2⟩ := List.pairwise_cons.1 hn
  obtain ⟨h1, h2⟩ := List.pairwise_cons.1 h
  unfold putM
  split
  ·rename_i e
   exact List.pairwise_cons.2 ⟨fun a ha => (hr a (List.mem_cons_of_mem _ ha) (fun e2 => n1 a ha (e.symm.trans e2.symm))).2, h2⟩
  ·rename_i e
   refine List.pairwise_cons.2 ⟨fun a ha => ?_, pw_putM n2 h2 fun a ha hne => hr a (List.mem_cons_of_mem _ ha) hne⟩
   rcases (mem_putM n2 a).1 ha with rfl | ⟨ha, _⟩
   ·exact (hr b (List.mem_cons_self ..) (fun e2 => e e2.symm)).1
   ·exact h1 a ha
theorem mget_nm {s : List Nat} : ∀ (l : List Nm), mget (l.map nmP) s = (l.find? fun m => decide (m.name = s)).map Nm.v
 | [] => rfl
 | a :: l => by
  have ih := mget_nm (s := s) l
  show (if s = a.name then some a.v else mget (l.map nmP) s) = _
  by_cases e : s = a.name
  ·subst e; simp
  ·have e2 : ¬ a.name = s := fun h => e h.symm
   simp [e, e2, ih]
theorem mget_ev {n : Nat} : ∀ (l : List Ev), mget (l.map evP) n = (l.find? fun e => decide (e.n = n)).map Ev.v
 | [] => rfl
 | a :: l => by
  have ih := mget_ev (n := n) l
  show (if n = a.n then some a.v else mget (l.map evP) n) = _
  by_cases e : n = a.n
  ·subst e; simp
  ·have e2 : ¬ a.n = n := fun h => e h.symm
   simp [e, e2, ih]
theorem pw_ne {α β : Type} {f : α → β} : ∀ {l : List α}, l.Pairwise (fun a b => f a ≠ f b) → ∀ {a b : α}, a ∈ l → b ∈ l → a ≠ b → f a ≠ f b
 | [], _, a, b, ha, _, _ => by cases ha
 | c :: l, h, a, b, ha, hb, hab => by
  obtain ⟨h1, h2⟩ := List.pairwise_cons.1 h
  rcases List.mem_cons.1 ha with e1 | ha1
  ·rcases List.mem_cons.1 hb with e2 | hb1
   ·exact absurd (e1.trans e2.symm) hab
   ·rw [e1]; exact h1 b hb1
  ·rcases List.mem_cons.1 hb with e2 | hb1
   ·rw [e2]; exact fun e => h1 a ha1 e.symm
   ·exact pw_ne h2 ha1 hb1 hab
structure IxAt (S : AS) (X : XI) (P : List Nat → Ent → Prop) : Prop where
 x : S.h.get X.x = some (.row [.map X.me, .map X.mn] 0 0 false 73)
 lx : X.x < S.next
 lme : X.me < S.next
 lmn : X.mn < S.next
 em : MpW S X.me (fun n : Nat => AV.int .u64 (n : Int)) (X.evs.map evP)
 nm : MpW S X.mn (fun s : List Nat => AV.str s) (X.nms.map nmP)
 row : ∀ m, m ∈ X.nms → m.id < S.next ∧ ∃ low, low ≤ m.g ∧ S.h.get m.id = some (.row (m.L.flatMap encE) low m.g false 80)
 att : ∀ e, e ∈ X.evs → AttsAt S e.u e.atts
 ne1 : X.x ≠ X.me
 ne2 : X.x ≠ X.mn
 ne3 : X.me ≠ X.mn
 nid : ∀ m, m ∈ X.nms → m.id ≠ X.x ∧ m.id ≠ X.me ∧ m.id ≠ X.mn
 aid : ∀ e, e ∈ X.evs → bnd e.u ≠ X.x + 1 ∧ bnd e.u ≠ X.me + 1 ∧ bnd e.u ≠ X.mn + 1 ∧ ∀ m, m ∈ X.nms → bnd e.u ≠ m.id + 1
 ids : X.nms.Pairwise fun a b => a.id ≠ b.id
 evk : X.evs.Pairwise fun a b => a.n ≠ b.n
 nmk : X.nms.Pairwise fun a b => a.name ≠ b.name
 rises : ∀ m, m ∈ X.nms → Rises m.L
 mem : ∀ m, m ∈ X.nms → ∀ e, e ∈ m.L ↔ P m.name e
 all : ∀ s e, P s e → ∃ m, m ∈ X.nms ∧ m.name = s
 len : ∀ m, m ∈ X.nms → m.L.length ≤ X.k
 evl : X.evs.length ≤ X.k
def NoEmpty (X : XI) : Prop := ∀ m, m ∈ X.nms → m.L ≠ []
section
variable {S T : AS} {X : XI} {P : List Nat → Ent → Prop}
theorem IxAt.foot_lt (h : IxAt S X P) {id : Nat} (hf : X.foot id) : id < S.next := by
 rcases hf with rfl | rfl | rfl | ⟨m, hm, rfl⟩ | ⟨e, he, hb⟩
 ·exact h.lx
 ·exact h.lme
 ·exact h.lmn
 ·exact (h.row m hm).1
 ·have := (h.att e he).sl.old; omega
theorem IxAt.agree (h : IxAt S X P) (hs : ∀ id, X.foot id → T.h.get id = S.h.get id) (hn : S.next ≤ T.next) : IxAt T X P := by
 refine { h with x := ?_, lx := ?_, lme := ?_, lmn := ?_, em := ?_, nm := ?_, row := ?_, att := ?_ }
 ·rw [hs _ (.inl rfl)]; exact h.x
 ·exact Nat.lt_of_lt_of_le h.lx hn
 ·exact Nat.lt_of_lt_of_le h.lme hn
 ·exact Nat.lt_of_lt_of_le h.lmn hn
 ·exact h.em.agree (hs _ (.inr (.inl rfl)))
 ·exact h.nm.agree (hs _ (.inr (.inr (.inl rfl))))
 ·intro m hm
  obtain ⟨h1, low, h2, h3⟩ := h.row m hm
  exact ⟨Nat.lt_of_lt_of_le h1 hn, low, h2, by rw [hs _ (.inr (.inr (.inr (.inl ⟨m, hm, rfl⟩))))]; exact h3⟩
 ·intro e he
  have ha := h.att e he
  exact ⟨ha.sl.agree (fun id hb => hs _ (.inr (.inr (.inr (.inr ⟨e, he, hb⟩))))) hn, ha.le⟩
theorem IxAt.sub (h : IxAt S X P) (hs : Sub S T) : IxAt T X P := h.agree (fun id hf => hs.h id (h.foot_lt hf)) hs.next
theorem IxAt.keep {A : Nat → Prop} (h : IxAt S X P) (hs : Keep A S T) (ha : ∀ id, X.foot id → ¬ A id) : IxAt T X P := h.agree (fun id hf => hs.h id (h.foot_lt hf) (ha id hf)) hs.next
theorem IxAt.iff {Q : List Nat → Ent → Prop} (h : IxAt S X P) (hq : ∀ s e, P s e ↔ Q s e) : IxAt S X Q := { h with mem := fun m hm e => (h.mem m hm e).trans (hq _ _), all := fun s e hp => h.all s e ((hq _ _).2 hp) }
theorem IxAt.find (h : IxAt S X P) (s : List Nat) : (∃ m, m ∈ X.nms ∧ m.name = s ∧ mget (X.nms.map nmP) s = some m.v) ∨ (mget (X.nms.map nmP) s = none ∧ (∀ m, m ∈ X.nms → m.name ≠ s) ∧ ∀ e, ¬ P s e) := by
 rw [mget_nm]
 cases hf : X.nms.find? fun m => decide (m.name = s) with
 | some m =>
  have h1 := List.find?_some hf
  exact .inl ⟨m, List.mem_of_find?_eq_some hf, by simpa using h1, rfl⟩
 | none =>
  have h1 := List.find?_eq_none.1 hf
  refine .inr ⟨rfl, fun m hm e => by simpa [e] using h1 m hm, fun e hp => ?_⟩
  obtain ⟨m, hm, e⟩ := h.all s e hp
  simpa [e] using h1 m hm
theorem IxAt.findE (h : IxAt S X P) (n : Nat) : (∃ e, e ∈ X.evs ∧ e.n = n ∧ mget (X.evs.map evP) n = some e.v) ∨ (mget (X.evs.map evP) n = none ∧ ∀ e, e ∈ X.evs → e.n ≠ n) := by
 rw [mget_ev]
 cases hf : X.evs.find? fun e => decide (e.n = n) with
 | some m =>
  have h1 := List.find?_some hf
  exact .inl ⟨m, List.mem_of_find?_eq_some hf, by simpa using h1, rfl⟩
 | none =>
  have h1 := List.find?_eq_none.1 hf
  exact .inr ⟨rfl, fun m hm e => by simpa [e] using h1 m hm⟩
theorem IxAt.sl (h : IxAt S X P) {m : Nm} (hm : m ∈ X.nms) : Sl S m.v 5 (m.L.flatMap encE) := by
 obtain ⟨h1, low, h2, h3⟩ := h.row m hm
 refine ⟨by simp [Nm.v, isSl, capB], ?_, by simp only [Nm.v, sLen]; exact fm_len zaR m.L, by simp only [Nm.v, bnd]; exact h1⟩
 unfold Nm.v
 cases hl : m.L with
 | nil => simp [rdS]
 | cons a l =>
  rw [hl] at h3
  have h4 := fm_len zaR (a :: l)
  simp only [List.length_cons] at h4 ⊢
  simp only [rdS, rd_at, h3, zbJ]
  rw [if_pos ⟨h2, Nat.le_refl _, by omega⟩, List.drop_zero, List.take_of_length_le (by rw [h4]; exact Nat.le_refl _)]
theorem IxAt.put (h : IxAt S X P) {m : Nm} {k : Nat} {Q : List Nat → Ent → Prop} (hid : (∃ m0, m0 ∈ X.nms ∧ m0.name = m.name ∧ m0.id = m.id) ∨ S.next ≤ m.id) (hlt : m.id < T.next) (hn : S.next ≤ T.next)
  (hT : ∀ id, X.foot id → id ≠ m.id → id ≠ X.mn → T.h.get id = S.h.get id) (hrow : ∃ low, low ≤ m.g ∧ T.h.get m.id = some (.row (m.L.flatMap encE) low m.g false 80))
  (hmp : MpW T X.mn (fun s : List Nat => AV.str s) ((putM X.nms m).map nmP)) (hr : Rises m.L) (hm : ∀ e, e ∈ m.L ↔ Q m.name e) (hq : ∀ s e, s ≠ m.name → (Q s e ↔ P s e)) (hk : X.k ≤ k) (hl : m.L.length ≤ k) :
  IxAt T { X with nms := putM X.nms m, k := k } Q := by
 have hlx := h.lx
 have hlme := h.lme
 have hlmn := h.lmn
 have hmid : m.id ≠ X.x ∧ m.id ≠ X.me ∧ m.id ≠ X.mn ∧ ∀ a, a ∈ X.nms → a.name ≠ m.name → a.id ≠ m.id := by
  rcases hid with ⟨m0, h0, h1, h2⟩ | hge
  ·obtain ⟨a1, a2, a3⟩ := h.nid m0 h0
   refine ⟨by rw [← h2]; exact a1, by rw [← h2]; exact a2, by rw [← h2]; exact a3, fun a ha hne e => ?_⟩
   have hne2 : a ≠ m0 := fun e2 => hne (by rw [e2]; exact h1)
   exact pw_ne h.ids ha h0 hne2 (e.trans h2.symm)
  ·refine ⟨by omega, by omega, by omega, fun a ha _ e => ?_⟩
   have := (h.row a ha).1; omega
 have hmem := mem_putM (m := m) h.nmk
 refine ⟨?_, by show X.x < T.next; omega, by show X.me < T.next; omega, by show X.mn < T.next; omega, ?_, hmp, ?_, ?_, h.ne1, h.ne2, h.ne3, ?_, ?_, ?_, h.evk, ?_, ?_, ?_, ?_, ?_, Nat.le_trans h.evl hk⟩
 ·rw [← h.x]; exact hT _ (.inl rfl) (fun e => hmid.1 e.symm) h.ne2
 ·exact h.em.agree (hT _ (.inr (.inl rfl)) (fun e => hmid.2.1 e.symm) h.ne3)
 ·intro a ha
  rcases (hmem a).1 ha with rfl | ⟨ha, hne⟩
  ·exact ⟨hlt, hrow⟩
  ·obtain ⟨h1, low, h2, h3⟩ := h.row a ha
   exact ⟨Nat.lt_of_lt_of_le h1 hn, low, h2, by rw [hT _ (.inr (.inr (.inr (.inl ⟨a, ha, rfl⟩)))) (hmid.2.2.2 a ha hne) (h.nid a ha).2.2]; exact h3⟩
 ·intro e he
  have ha := h.att e he
  have hb := h.aid e he
  have hold := ha.sl.old
  refine ⟨ha.sl.agree (fun id hid' => hT _ (.inr (.inr (.inr (.inr ⟨e, he, hid'⟩)))) ?_ (by have := hb.2.2.1; omega)) hn, ha.le⟩
  rcases hid with ⟨m0, h0, _, h2⟩ | hge
  ·have := hb.2.2.2 m0 h0; omega
  ·omega
 ·intro a ha
  rcases (hmem a).1 ha with rfl | ⟨ha, _⟩
  ·exact ⟨hmid.1, hmid.2.1, hmid.2.2.1⟩
  ·exact h.nid a ha
 ·intro e he
  have hb := h.aid e he
  have hold := (h.att e he).sl.old
  refine ⟨hb.1, hb.2.1, hb.2.2.1, fun a ha => ?_⟩
  rcases (hmem a).1 ha with rfl | ⟨ha, _⟩
  ·rcases hid with ⟨m0, h0, _, h2⟩ | hge
   ·have := hb.2.2.2 m0 h0; omega
   ·omega
  ·exact hb.2.2.2 a ha
 ·exact pw_putM h.nmk h.ids fun a ha hne => ⟨hmid.2.2.2 a ha hne, fun e => hmid.2.2.2 a ha hne e.symm⟩
 ·exact pw_putM h.nmk h.nmk fun a ha hne => ⟨hne, fun e => hne e.symm⟩
 ·intro a ha
  rcases (hmem a).1 ha with rfl | ⟨ha, _⟩
  ·exact hr
  ·exact h.rises a ha
 ·intro a ha e
  rcases (hmem a).1 ha with rfl | ⟨ha, hne⟩
  ·exact hm e
  ·exact (h.mem a ha e).trans (hq _ _ hne).symm
 ·intro s e hp
  by_cases hs : s = m.name
  ·exact ⟨m, (hmem m).2 (.inl rfl), hs.symm⟩
  ·obtain ⟨a, ha, he⟩ := h.all s e ((hq s e hs).1 hp)
   exact ⟨a, (hmem a).2 (.inr ⟨ha, fun e2 => hs (he.symm.trans e2)⟩), he⟩
 ·intro a ha
  rcases (hmem a).1 ha with rfl | ⟨ha, _⟩
  ·exact hl
  ·exact Nat.le_trans (h.len a ha) hk
theorem IxAt.drop (h : IxAt S X P) {s : List Nat} (hn : S.next ≤ T.next) (hT : ∀ id, X.foot id → id ≠ X.mn → T.h.get id = S.h.get id) (hmp : MpW T X.mn (fun s : List Nat => AV.str s) ((delM X.nms s).map nmP)) (hp : ∀ e, ¬ P s e) :
  IxAt T { X with nms := delM X.nms s } P := by
 have hmem := mem_delM (s := s) h.nmk
 have hsub := delM_sub s X.nms
 refine ⟨?_, Nat.lt_of_lt_of_le h.lx hn, Nat.lt_of_lt_of_le h.lme hn, Nat.lt_of_lt_of_le h.lmn hn, ?_, hmp, ?_, ?_, h.ne1, h.ne2, h.ne3, ?_, ?_, h.ids.sublist hsub, h.evk, h.nmk.sublist hsub, ?_, ?_, ?_, ?_, h.evl⟩
 ·rw [← h.x]; exact hT _ (.inl rfl) h.ne2
 ·exact h.em.agree (hT _ (.inr (.inl rfl)) h.ne3)
 ·intro a ha
  have ha := ((hmem a).1 ha).1
  obtain ⟨h1, low, h2, h3⟩ := h.row a ha
  exact ⟨Nat.lt_of_lt_of_le h1 hn, low, h2, by rw [hT _ (.inr (.inr (.inr (.inl ⟨a, ha, rfl⟩)))) (h.nid a ha).2.2]; exact h3⟩
 ·intro e he
  have ha := h.att e he
  exact ⟨ha.sl.agree (fun id hid' => hT _ (.inr (.inr (.inr (.inr ⟨e, he, hid'⟩)))) (by have := (h.aid e he).2.2.1; omega)) hn, ha.le⟩
 ·intro a ha
  exact h.nid a ((hmem a).1 ha).1
 ·intro e he
  obtain ⟨b1, b2, b3, b4⟩ := h.aid e he
  exact ⟨b1, b2, b3, fun a ha => b4 a ((hmem a).1 ha).1⟩
 ·intro a ha
  exact h.rises a ((hmem a).1 ha).1
 ·intro a ha
  exact h.mem a ((hmem a).1 ha).1
 ·intro s' e hpe
  obtain ⟨a, ha, he⟩ := h.all s' e hpe
  exact ⟨a, (hmem a).2 ⟨ha, fun e2 => hp e (by rw [← e2, he]; exact hpe)⟩, he⟩
 ·intro a ha
  exact h.len a ((hmem a).1 ha).1
theorem IxAt.add (h : IxAt S X P) {ev : Ev} (hnew : ∀ e, e ∈ X.evs → e.n ≠ ev.n) (hn : S.next ≤ T.next) (hT : ∀ id, X.foot id → id ≠ X.me → T.h.get id = S.h.get id) (hmp : MpW T X.me (fun n : Nat => AV.int .u64 (n : Int)) ((X.evs ++ [ev]).map evP))
  (ha : AttsAt T ev.u ev.atts) (hb : bnd ev.u = 0 ∨ S.next < bnd ev.u) : IxAt T { X with evs := X.evs ++ [ev], k := X.k + 1 } P := by
 have hlx := h.lx
 have hlme := h.lme
 have hlmn := h.lmn
 refine ⟨?_, by show X.x < T.next; omega, by show X.me < T.next; omega, by show X.mn < T.next; omega, hmp, ?_, ?_, ?_, h.ne1, h.ne2, h.ne3, h.nid, ?_, h.ids, ?_, h.nmk, h.rises, h.mem, h.all, fun m hm => Nat.le_succ_of_le (h.len m hm), ?_⟩
 ·rw [← h.x]; exact hT _ (.inl rfl) h.ne1
 ·exact h.nm.agree (hT _ (.inr (.inr (.inl rfl))) (fun e => h.ne3 e.symm))
 ·intro a ha
  obtain ⟨h1, low, h2, h3⟩ := h.row a ha
  exact ⟨Nat.lt_of_lt_of_le h1 hn, low, h2, by rw [hT _ (.inr (.inr (.inr (.inl ⟨a, ha, rfl⟩)))) (h.nid a ha).2.1]; exact h3⟩
 ·intro e he
  rcases List.mem_append.1 he with he | he
  ·have ha := h.att e he
   exact ⟨ha.sl.agree (fun id hid' => hT _ (.inr (.inr (.inr (.inr ⟨e, he, hid'⟩)))) (by have := (h.aid e he).2.1; omega)) hn, ha.le⟩
  ·simp at he; subst he; exact ha
 ·intro e he
  rcases List.mem_append.1 he with he | he
  ·exact h.aid e he
  ·simp at he; subst he
   refine ⟨by show bnd e.u ≠ X.x + 1; omega, by show bnd e.u ≠ X.me + 1; omega, by show bnd e.u ≠ X.mn + 1; omega, fun m hm => ?_⟩
   have := (h.row m hm).1; omega
 ·rw [List.pairwise_append]
  exact ⟨h.evk, by simp, fun a ha' b hb => by simp at hb; subst hb; exact hnew a ha'⟩
 ·rw [List.length_append]
  have := h.evl
  show X.evs.length + 1 ≤ X.k + 1; omega
theorem IxAt.del (h : IxAt S X P) {n : Nat} (hn : S.next ≤ T.next) (hT : ∀ id, X.foot id → id ≠ X.me → T.h.get id = S.h.get id) (hmp : MpW T X.me (fun n : Nat => AV.int .u64 (n : Int)) ((delE X.evs n).map evP)) :
  IxAt T { X with evs := delE X.evs n } P := by
 have hsub := delE_sub n X.evs
 refine ⟨?_, Nat.lt_of_lt_of_le h.lx hn, Nat.lt_of_lt_of_le h.lme hn, Nat.lt_of_lt_of_le h.lmn hn, hmp, ?_, ?_, ?_, h.ne1, h.ne2, h.ne3, h.nid, ?_, h.ids, h.evk.sublist hsub, h.nmk, h.rises, h.mem, h.all, h.len, Nat.le_trans hsub.length_le h.evl⟩
 ·rw [← h.x]; exact hT _ (.inl rfl) h.ne1
 ·exact h.nm.agree (hT _ (.inr (.inr (.inl rfl))) (fun e => h.ne3 e.symm))
 ·intro a ha
  obtain ⟨h1, low, h2, h3⟩ := h.row a ha
  exact ⟨Nat.lt_of_lt_of_le h1 hn, low, h2, by rw [hT _ (.inr (.inr (.inr (.inl ⟨a, ha, rfl⟩)))) (h.nid a ha).2.1]; exact h3⟩
 ·intro e he
  have he := hsub.subset he
  have ha := h.att e he
  exact ⟨ha.sl.agree (fun id hid' => hT _ (.inr (.inr (.inr (.inr ⟨e, he, hid'⟩)))) (by have := (h.aid e he).2.1; omega)) hn, ha.le⟩
 ·intro e he
  exact h.aid e (hsub.subset he)
end
def hasP (X : XI) (s : List Nat) (e : Ent) : Prop := ∃ ev, ev ∈ X.evs ∧ ev.n = e.n ∧ (⟨s, e.v⟩ : Att) ∈ ev.atts
structure Step (S T : AS) (X X' : XI) : Prop where
 keep : Keep X.wf S T
 wf : ∀ id, X'.wf id → X.wf id ∨ S.next ≤ id
 foot : ∀ id, X'.foot id → X.foot id ∨ S.next ≤ id
theorem Step.refl {S : AS} {X : XI} : Step S S X X := ⟨Keep.refl, fun _ h => .inl h, fun _ h => .inl h⟩
theorem Step.trans {R S T : AS} {X Y Z : XI} (h : Step R S X Y) (k : Step S T Y Z) : Step R T X Z := by
 refine ⟨⟨fun id h1 h2 => ?_, Nat.le_trans h.keep.next k.keep.next⟩, fun id hf => ?_, fun id hf => ?_⟩
 ·rw [← h.keep.h id h1 h2]
  exact k.keep.h id (Nat.lt_of_lt_of_le h1 h.keep.next) fun hy => (h.wf id hy).elim h2 fun h3 => by omega
 ·rcases k.wf id hf with h1 | h1
  ·exact h.wf id h1
  ·exact .inr (Nat.le_trans h.keep.next h1)
 ·rcases k.foot id hf with h1 | h1
  ·exact h.foot id h1
  ·exact .inr (Nat.le_trans h.keep.next h1)
theorem Step.of_sub {S T : AS} {X : XI} (h : Sub S T) : Step S T X X := ⟨⟨fun id h1 _ => h.h id h1, h.next⟩, fun _ h => .inl h, fun _ h => .inl h⟩
theorem o_fn8 : C1.fns.get 8 = some Tryz.f8 := by kernel_rfl
theorem o_ok8 : codeOk C1 Tryz.f8.ntmps (Tryz.f8.body.getD .skip) = true := by kernel_rfl
@[simp] theorem o_mt70 : mapT C1 70 = true := by kernel_rfl
@[simp] theorem o_mt71 : mapT C1 71 = true := by kernel_rfl
theorem o_fn9 : C1.fns.get 9 = some Tryz.f9 := by kernel_rfl
theorem o_ok9 : codeOk C1 Tryz.f9.ntmps (Tryz.f9.body.getD .skip) = true := by kernel_rfl
@[simp] theorem o_ag33 : aggOf C1 33 = some true := by kernel_rfl
@[simp] theorem o_sz33 : szOf C1 33 = some 2 := by kernel_rfl
@[simp] theorem o_fa73_0 : fieldAt C1 73 0 = some 0 := by kernel_rfl
@[simp] theorem o_ag70 : aggOf C1 70 = some false := by kernel_rfl
@[simp] theorem o_sz70 : szOf C1 70 = some 1 := by kernel_rfl
@[simp] theorem o_mk70 : mapK C1 70 = some ((.int .u64), .agg [.str [], .nils]) := by kernel_rfl
@[simp] theorem o_ze33 : zeroOf C1 33 = some (.agg [.str [], .nils]) := by kernel_rfl
@[simp] theorem o_fa33_0 : fieldAt C1 33 0 = some 0 := by kernel_rfl
@[simp] theorem o_ag9 : aggOf C1 9 = some false := by kernel_rfl
@[simp] theorem o_sz9 : szOf C1 9 = some 1 := by kernel_rfl
@[simp] theorem o_fa33_1 : fieldAt C1 33 1 = some 1 := by kernel_rfl
@[simp] theorem o_ag31 : aggOf C1 31 = some false := by kernel_rfl
@[simp] theorem o_sz31 : szOf C1 31 = some 1 := by kernel_rfl
@[simp] theorem o_st31 : slT C1 31 = some (65, 5, 56) := by kernel_rfl
@[simp] theorem o_ag65 : aggOf C1 65 = some true := by kernel_rfl
@[simp] theorem o_sz65 : szOf C1 65 = some 5 := by kernel_rfl
@[simp] theorem o_ze65 : zeroOf C1 65 = some (.agg [.str [], .int .i64 0, .int .i64 0, .str [], .bool false]) := by kernel_rfl
@[simp] theorem o_fa73_1 : fieldAt C1 73 1 = some 1 := by kernel_rfl
@[simp] theorem o_ag71 : aggOf C1 71 = some false := by kernel_rfl
@[simp] theorem o_sz71 : szOf C1 71 = some 1 := by kernel_rfl
@[simp] theorem o_fa65_0 : fieldAt C1 65 0 = some 0 := by kernel_rfl
@[simp] theorem o_mk71 : mapK C1 71 = some (.string, .nils) := by kernel_rfl
@[simp] theorem o_fa65_1 : fieldAt C1 65 1 = some 1 := by kernel_rfl
@[simp] theorem o_ag50 : aggOf C1 50 = some true := by kernel_rfl
@[simp] theorem o_sz50 : szOf C1 50 = some 4 := by kernel_rfl
@[simp] theorem o_sz80 : szOf C1 80 = some 5 := by kernel_rfl
@[simp] theorem o_ze80 : zeroOf C1 80 = some (.agg [.int .i64 0, .int .i64 0, .str [], .bool false, .int .u64 0]) := by kernel_rfl
@[simp] theorem o_ag80 : aggOf C1 80 = some true := by kernel_rfl
@[simp] theorem o_st78 : slT C1 78 = some (80, 5, 48) := by kernel_rfl
@[simp] theorem o_ag78 : aggOf C1 78 = some false := by kernel_rfl
theorem o_fn11 : C1.fns.get 11 = some Tryz.f11 := by kernel_rfl
theorem o_ok11 : codeOk C1 Tryz.f11.ntmps (Tryz.f11.body.getD .skip) = true := by kernel_rfl
theorem o_fn12 : C1.fns.get 12 = some Tryz.f12 := by kernel_rfl
theorem o_ok12 : codeOk C1 Tryz.f12.ntmps (Tryz.f12.body.getD .skip) = true := by kernel_rfl
@[simp] theorem o_st25 : slT C1 25 = some (54, 7, 88) := by kernel_rfl
@[simp] theorem o_fa54_0 : fieldAt C1 54 0 = some 0 := by kernel_rfl
@[simp] theorem o_ag54 : aggOf C1 54 = some true := by kernel_rfl
@[simp] theorem o_sz54 : szOf C1 54 = some 7 := by kernel_rfl
@[simp] theorem o_ze54 : zeroOf C1 54 = some (.agg [.str [], .int .i64 0, .int .i64 0, .int .i64 0, .str [], .bool false, .nils]) := by kernel_rfl
@[simp] theorem o_fa80_1 : fieldAt C1 80 1 = some 4 := by kernel_rfl
@[simp] theorem o_ag30 : aggOf C1 30 = some false := by kernel_rfl
@[simp] theorem o_sz30 : szOf C1 30 = some 1 := by kernel_rfl
@[simp] theorem o_st38 : slT C1 38 = some (30, 1, 8) := by kernel_rfl
@[simp] theorem o_ag38 : aggOf C1 38 = some false := by kernel_rfl
@[simp] theorem o_un38 : und C1 38 = some (.slice 30) := by kernel_rfl
theorem o_fn17 : C1.fns.get 17 = some Tryz.f17 := by kernel_rfl
theorem o_ok17 : codeOk C1 Tryz.f17.ntmps (Tryz.f17.body.getD .skip) = true := by kernel_rfl
theorem o_fn18 : C1.fns.get 18 = some Tryz.f18 := by kernel_rfl
theorem o_ok18 : codeOk C1 Tryz.f18.ntmps (Tryz.f18.body.getD .skip) = true := by kernel_rfl
theorem o_fn27 : C1.fns.get 27 = some Tryz.f27 := by kernel_rfl
theorem o_ok27 : codeOk C1 Tryz.f27.ntmps (Tryz.f27.body.getD .skip) = true := by kernel_rfl
@[simp] theorem o_pt26 : ptT C1 26 = true := by kernel_rfl
theorem o_fn47 : C1.fns.get 47 = some Tryz.f47 := by kernel_rfl
theorem o_ok47 : codeOk C1 Tryz.f47.ntmps (Tryz.f47.body.getD .skip) = true := by kernel_rfl
theorem eqm70 (c : Bool) (i : Nat) : binV C1 .eql 70 c (.map i) .nilm = some (.bool false) := by kernel_rfl
theorem delete_b {S : AS} {t : TypeId} {ts : List TypeId} {m k : AV} : builtinV C1 S .delete (t :: ts) [m, k] = vals? (deleteV C1 S t m k) 16 := rfl
@[simp] theorem bld73 (a b : Nat) : buildA C1 73 [(0, .map a), (1, .map b)] = some (.agg [.map a, .map b]) := by kernel_rfl
theorem agg_u {S : AS} {u : AV} {k : List Nat} {sz : Nat} {cs : List AV} (h : Sl S u sz cs) : buildA C1 33 [(0, .str k), (1, u)] = some (.agg [.str k, u]) := by
 rcases h.cases with rfl | ⟨_, _, _, _, _, _, rfl⟩ <;> kernel_rfl
@[simp] theorem bld80 (a b : Int) (s : List Nat) (t : Bool) (n : Int) : buildA C1 80 [(0, .agg [.int .i64 a, .int .i64 b, .str s, .bool t]), (1, .int .u64 n)] = some (.agg [.int .i64 a, .int .i64 b, .str s, .bool t, .int .u64 n]) := by kernel_rfl
section
variable {S : AS} {X : XI} {P : List Nat → Ent → Prop}
theorem none27 (h : IxAt S X P) {Q : AV → AS → Prop} : CallW C1 27 [.ptr X.x 0 0 2] S Q = Q (.bool false) S := by
 refine CallW.eq (enterW (pu1 _) (pr1 _ rfl) o_fn27 rfl o_ok27 (by simp) fun F hn hs => ?_)
 have s0 := hs 0
 clear hs
 simp only [List.getElem?_cons_zero, Option.getD_some] at s0
 simp [s0, h.x, eqm70]
def X0 (n : Nat) : XI := ⟨n + 2, n, n + 1, [], [], 0⟩
theorem new8 : CallW C1 8 [] S fun v T => v = .ptr (S.next + 2) 0 0 2 ∧ IxAt T (X0 S.next) (hasP (X0 S.next)) ∧ Sub S T ∧ T.next = S.next + 3 := by
 refine enterW (pu1 _) (pr1 _ rfl) o_fn8 rfl o_ok8 (by simp) fun F hn hs => ?_
 clear hs
 simp
 have wf : MapWf [] 0 := ⟨fun e he => (by cases he), List.Pairwise.nil⟩
 have e0 : (((S.h.set S.next (AObj.map [] 0)).set (S.next + 1) (AObj.map [] 0)).set (S.next + 2) (AObj.row [AV.map S.next, AV.map (S.next + 1)] 0 0 false 73)).get S.next = some (.map [] 0) := by
  rw [gsN _ _ (by omega), gsN _ _ (by omega)]; exact gsS _ _ _
 have e1 : (((S.h.set S.next (AObj.map [] 0)).set (S.next + 1) (AObj.map [] 0)).set (S.next + 2) (AObj.row [AV.map S.next, AV.map (S.next + 1)] 0 0 false 73)).get (S.next + 1) = some (.map [] 0) := by
  rw [gsN _ _ (by omega)]; exact gsS _ _ _
 refine ⟨⟨gsS _ _ _, by show S.next + 2 < S.next + 1 + 2; omega, by show S.next < S.next + 1 + 2; omega, by show S.next + 1 < S.next + 1 + 2; omega, ⟨[], 0, e0, rfl, wf⟩, ⟨[], 0, e1, rfl, wf⟩, fun m hm => (by cases hm), fun m hm => (by cases hm),
  by show S.next + 2 ≠ S.next; omega, by show S.next + 2 ≠ S.next + 1; omega, by show S.next ≠ S.next + 1; omega, fun m hm => (by cases hm), fun m hm => (by cases hm), List.Pairwise.nil, List.Pairwise.nil, List.Pairwise.nil, fun m hm => (by cases hm), fun m hm => (by cases hm), fun s e he => ?_, fun m hm => (by cases hm), Nat.le_refl _⟩, ?_⟩
 ·obtain ⟨ev, h, _⟩ := he
  cases h
 ·exact (((Sub.refl S).set _ _ (Nat.le_refl _) _ (Nat.le_succ _)).set _ _ (Nat.le_succ _) _ (Nat.le_succ (S.next + 1))).set _ _ (Nat.le_add_right _ _) _ (Nat.le_succ (S.next + 2))
theorem entries18 (h : IxAt S X P) (s : List Nat) : CallW C1 18 [.ptr X.x 0 0 2, .str s] S fun v T => T = S ∧ ((∃ m, m ∈ X.nms ∧ m.name = s ∧ v = .int .i64 (m.L.length : Int)) ∨ ((∀ e, ¬ P s e) ∧ v = .int .i64 0)) := by
 have hlk := lookup_mp (cx := C1) (t := 71) (k := s) (ok := false) o_mk71 keyStr (h.nm.mp h.lmn)
 refine enterW (pu1 _) (pr1 _ rfl) o_fn18 rfl o_ok18 (by simp) fun F hn hs => ?_
 have s0 := hs 0
 have s1 := hs 1
 clear hs
 simp only [List.getElem?_cons_zero, List.getElem?_cons_succ, Option.getD_some] at s0 s1
 rcases h.find s with ⟨m, hm, h1, h2⟩ | ⟨h2, _, h3⟩
 ·rw [h2] at hlk
  simp [Nm.v] at hlk
  simp [s0, s1, ex1, none27 h, h.x, hlk]
  exact .inl ⟨m, hm, h1, rfl⟩
 ·rw [h2] at hlk
  simp at hlk
  simp [s0, s1, ex1, none27 h, h.x, hlk]
  exact .inr h3
def numsOf (X : XI) : List Nat := (X.evs.map Ev.n).mergeSort fun a b => decide (a ≤ b)
theorem numL_len (l : List Nat) : (numL l).length = l.length := by simp [numL]
theorem out46_ok (S : AS) (l : List Nat) : Sl (out46 S l).2 (out46 S l).1 1 (numL l) ∧ Sub S (out46 S l).2 := by
 cases l with
 | nil => exact ⟨Sl.nil, Sub.refl S⟩
 | cons x l =>
  refine ⟨⟨by simp [out46, isSl, capB], ?_, by rw [numL_len]; simp [out46, sLen], by simp only [out46, bnd]; omega⟩, ?_⟩
  ·simp only [out46, rdS, rd_at]
   rw [gsS, zbJ, if_pos ⟨Nat.le_refl _, Nat.le_refl _, by omega⟩, List.drop_zero, List.take_of_length_le (by rw [numL_len]; simp)]
  ·exact (Sub.refl S).set _ _ (Nat.le_add_right _ _) _ (Nat.le_add_right _ _)
theorem keys_of {es : List AEnt} {l : List (Nat × AV)} (h : es.map (fun e => (e.key, e.val)) = l.map (fun p => (AV.int .u64 (p.1 : Int), p.2))) : es.map keyN = l.map (·.1) ∧ ∀ e, e ∈ es → e.key = .int .u64 (keyN e : Int) := by
 induction es generalizing l with
 | nil => cases l with
  | nil => exact ⟨rfl, fun e he => (by cases he)⟩
  | cons p l => simp at h
 | cons e es ih => cases l with
  | nil => simp at h
  | cons p l =>
   simp only [List.map_cons, List.cons.injEq, Prod.mk.injEq] at h
   obtain ⟨⟨h1, h2⟩, h3⟩ := h
   obtain ⟨i1, i2⟩ := ih h3
   have hk : keyN e = p.1 := by unfold keyN; rw [h1]
   refine ⟨by simp [i1, hk], fun a ha => ?_⟩
   rcases List.mem_cons.1 ha with rfl | ha
   ·rw [hk]; exact h1
   ·exact i2 a ha
theorem keys47 (m : Nat) : CallW C1 47 [.map m] S fun v T => v = .func (.func 79) [] [.ptr S.next 0 0 1] ∧ T = ⟨S.h.set S.next (.row [.map m] 0 0 false 70), S.next + 1⟩ := by
 refine enterW (pu1 _) (pr1 _ rfl) o_fn47 rfl o_ok47 (by simp) fun F hn hs => ?_
 have s0 := hs 0
 clear hs
 simp only [List.getElem?_cons_zero, Option.getD_some] at s0
 simp [s0]
theorem numbers17 (h : IxAt S X P) (hk : X.k ≤ 1048576) : CallW C1 17 [.ptr X.x 0 0 2] S fun v T => Sl T v 1 (numL (numsOf X)) ∧ Sub S T := by
 obtain ⟨es, clock, h1, h2, h3⟩ := h.em
 obtain ⟨k1, k2⟩ := keys_of h2
 have hev := h.evl
 have hlen : es.length = X.evs.length := by have := congrArg List.length h2; simpa using this
 have hris : risen es = numsOf X := by
  unfold risen numsOf
  rw [k1, List.map_map]
  rfl
 obtain ⟨v, T, ⟨rfl, rfl⟩, e1⟩ := (keys47 (S := S) X.me).ex
 have hq : q46 [.func (.func 79) [] [.ptr S.next 0 0 1]] ⟨S.h.set S.next (.row [.map X.me] 0 0 false 70), S.next + 1⟩ = some (out46 ⟨S.h.set S.next (.row [.map X.me] 0 0 false 70), S.next + 1⟩ (numsOf X)) := by
  rw [← hris]
  refine q46_of ⟨S.next, X.me, clock, rfl, gsS _ _ _, ?_, h3, k2, Nat.lt_succ_self _, Nat.lt_succ_of_lt h.lme, by omega⟩
  show (S.h.set _ _).get _ = _
  rw [gsN _ _ (by have := h.lme; omega)]; exact h1
 obtain ⟨o1, o2⟩ := out46_ok ⟨S.h.set S.next (.row [.map X.me] 0 0 false 70), S.next + 1⟩ (numsOf X)
 obtain ⟨r, U, hr⟩ : ∃ r U, out46 ⟨S.h.set S.next (.row [.map X.me] 0 0 false 70), S.next + 1⟩ (numsOf X) = (r, U) := ⟨_, _, rfl⟩
 rw [hr] at hq o1 o2
 have e2 := fun Q => callW_prim (Q := Q) get46 (pu1 46) hq o1.np
 have hsub : Sub S U := (sub1 (S := S) (o := .row [.map X.me] 0 0 false 70)).trans o2
 refine enterW (pu1 _) (pr1 _ rfl) o_fn17 rfl o_ok17 (by simp) fun F hn hs => ?_
 have s0 := hs 0
 clear hs
 simp only [List.getElem?_cons_zero, Option.getD_some] at s0
 simp [s0, ex1, none27 h, h.x, e1, e2, o1.np]
 exact ⟨o1, hsub⟩
theorem numsOf_mem {n : Nat} : n ∈ numsOf X ↔ ∃ e, e ∈ X.evs ∧ e.n = n := by
 unfold numsOf
 rw [List.mem_mergeSort, List.mem_map]
theorem numsOf_lt (h : IxAt S X P) : (numsOf X).Pairwise (· < ·) := by
 have h1 : (numsOf X).Pairwise (· ≤ ·) := by
  have := List.pairwise_mergeSort (le := fun a b : Nat => decide (a ≤ b)) (fun a b c h1 h2 => by simp only [decide_eq_true_eq] at *; omega) (fun a b => by simp only [Bool.or_eq_true, decide_eq_true_eq]; omega) (X.evs.map Ev.n)
  exact this.imp fun h => by simpa using h
 have h2 : (numsOf X).Nodup := by
  unfold numsOf
  rw [(List.mergeSort_perm _ _).nodup_iff]
  exact List.pairwise_map.2 h.evk
 exact (h1.and h2).imp fun ⟨a, b⟩ => by omega
end
theorem flat_encE : ∀ L : List Ent, flatL (flatF 2) (L.flatMap encE) = true := fun L => by
 rw [ins.flat_all]
 intro x hx
 obtain ⟨e, _, he⟩ := List.mem_flatMap.1 hx
 simp only [encE, encV, List.cons_append, List.nil_append, List.mem_cons, List.not_mem_nil, or_false] at he
 rcases he with rfl | rfl | rfl | rfl | rfl <;> rfl
theorem fits48 {n : Nat} (h : n ≤ 4194304) : fits n 48 = true := by
 unfold fits
 simp only [nble, Bool.and_eq_true, decide_eq_true_eq]
 have : n.mul 48 = n * 48 := rfl
 constructor <;> omega
theorem cond_yes {α : Type} {c : Bool} {x : Option α} (h : c = true) : cond c x none = x := by rw [h]; rfl
theorem insA_mk {S : AS} {id g n i bid low : Nat} {L : List Ent} {one : Ent} (h1 : S.h.get id = some (.row (L.flatMap encE) low g false 80)) (h2 : S.h.get bid = some (.row (encE one) 0 0 false 80)) (hn : L.length = n) (hi : i ≤ n) (h0 : 0 < n) (hf : n + 1 ≤ 4194304) (hne : bid ≠ id) :
  ins.insA S id g 0 n (n * 5) i bid = some (.slice id (g + 1) 0 (n + 1) ((n + 1) * 5) 5 none, ⟨S.h.set id (.row ((L.take i ++ one :: L.drop i).flatMap encE) (g + 1) (g + 1) false 80), S.next⟩) := by
 have hl := fm_len zaR L
 rw [hn] at hl
 have hx : (encE one).length = 5 := rfl
 have e1 : (List.take (i * 5) (L.flatMap encE)) ++ (encE one ++ List.drop (i * 5) (L.flatMap encE)) = (L.take i ++ one :: L.drop i).flatMap encE := by
  rw [fm_take zaR, fm_drop zaR, List.flatMap_append, List.flatMap_cons]
 have hfx : flatL (flatF 2) (encE one) = true := by have := flat_encE [one]; simpa using this
 unfold ins.insA
 simp only [h1, h2, nbeq, nble, nblt, zaI, zaO, zaS, zaK]
 refine (cond_yes ?_).trans ?_
 ·simp [hl, hi, h0, hx, hne, flat_encE, hfx, fits48 hf]
 have e2 : Nat.mul i 5 = i * 5 := rfl
 rw [e2, e1]
 rfl
theorem insN_mk {S : AS} {bid : Nat} {one : Ent} (h2 : S.h.get bid = some (.row (encE one) 0 0 false 80)) : ins.insN S bid = some (.slice S.next 0 0 1 5 5 none, ⟨S.h.set S.next (.row (encE one) 0 0 false 80), S.next + 1⟩) := by
 have hx : (encE one).length = 5 := rfl
 unfold ins.insN
 simp only [h2, nbeq, zaI, hx]
 rfl
theorem delA_mk {S : AS} {id g n i low : Nat} {L : List Ent} (h1 : S.h.get id = some (.row (L.flatMap encE) low g false 80)) (hn : L.length = n) (hi : i < n) (hf : n ≤ 4194304) :
  ins.delA S id g 0 n (n * 5) i (i + 1) = some (.slice id (g + 1) 0 (n - 1) ((n - 1) * 5) 5 none, ⟨S.h.set id (.row ((L.take i ++ L.drop (i + 1)).flatMap encE) (g + 1) (g + 1) false 80), S.next⟩) := by
 have hl := fm_len zaR L
 rw [hn] at hl
 have e1 : (List.take (i * 5) (L.flatMap encE)) ++ List.drop ((i + 1) * 5) (L.flatMap encE) = (L.take i ++ L.drop (i + 1)).flatMap encE := by
  rw [fm_take zaR, fm_drop zaR, List.flatMap_append]
 unfold ins.delA
 simp only [h1, nbeq, nble, nblt, zaI, zaO, zaS, zaK]
 refine (cond_yes ?_).trans ?_
 ·simp [hl, hi, flat_encE, fits48 hf]
 have e2 : Nat.mul i 5 = i * 5 := rfl
 have e3 : Nat.mul (Nat.succ i) 5 = (i + 1) * 5 := rfl
 rw [e2, e3, e1]
 rfl
def entV (X : XI) (s : List Nat) : AV := (mget (X.nms.map nmP) s).getD .nils
def entL (X : XI) (s : List Nat) : List Ent := ((X.nms.find? fun m => decide (m.name = s)).map Nm.L).getD []
section
variable {S : AS} {X : XI} {P : List Nat → Ent → Prop}
theorem IxAt.ent (h : IxAt S X P) (s : List Nat) : (∃ m, m ∈ X.nms ∧ m.name = s ∧ entV X s = m.v ∧ entL X s = m.L) ∨ (entV X s = .nils ∧ entL X s = [] ∧ (∀ m, m ∈ X.nms → m.name ≠ s) ∧ ∀ e, ¬ P s e) := by
 unfold entV entL
 rw [mget_nm]
 cases hf : X.nms.find? fun m => decide (m.name = s) with
 | some m =>
  have h1 := List.find?_some hf
  exact .inl ⟨m, List.mem_of_find?_eq_some hf, by simpa using h1, rfl, rfl⟩
 | none =>
  have h1 := List.find?_eq_none.1 hf
  refine .inr ⟨rfl, rfl, fun m hm e => by simpa [e] using h1 m hm, fun e hp => ?_⟩
  obtain ⟨m, hm, e⟩ := h.all s e hp
  simpa [e] using h1 m hm
theorem IxAt.lookup (h : IxAt S X P) (s : List Nat) : lookupV C1 S 71 (.map X.mn) (.str s) false = some (entV X s) := by
 rw [lookup_mp (cx := C1) (t := 71) (k := s) (ok := false) o_mk71 keyStr (h.nm.mp h.lmn)]
 unfold entV
 cases mget (X.nms.map nmP) s <;> rfl
theorem IxAt.entSl (h : IxAt S X P) (s : List Nat) : Sl S (entV X s) 5 ((entL X s).flatMap encE) := by
 rcases h.ent s with ⟨m, hm, _, e1, e2⟩ | ⟨e1, e2, _⟩
 ·rw [e1, e2]; exact h.sl hm
 ·rw [e1, e2]; exact Sl.nil
theorem IxAt.entR (h : IxAt S X P) (s : List Nat) : Rises (entL X s) := by
 rcases h.ent s with ⟨m, hm, _, e1, e2⟩ | ⟨e1, e2, _⟩
 ·rw [e2]; exact h.rises m hm
 ·rw [e2]; exact List.Pairwise.nil
theorem IxAt.entM (h : IxAt S X P) (s : List Nat) (e : Ent) : e ∈ entL X s ↔ P s e := by
 rcases h.ent s with ⟨m, hm, hn, e1, e2⟩ | ⟨e1, e2, _, h3⟩
 ·rw [e2, ← hn]; exact h.mem m hm e
 ·rw [e2]
  exact ⟨fun h => (by cases h), fun hp => absurd hp (h3 e)⟩
theorem IxAt.entLen (h : IxAt S X P) (s : List Nat) : (entL X s).length ≤ X.k := by
 rcases h.ent s with ⟨m, hm, _, e1, e2⟩ | ⟨e1, e2, _⟩
 ·rw [e2]; exact h.len m hm
 ·rw [e2]; exact Nat.zero_le _
def entK (X : XI) (s : List Nat) (one : Ent) : Nat := cutN (fun x => decide (0 ≤ ordE x one)) (entL X s)
theorem IxAt.entCut (h : IxAt S X P) (s : List Nat) (one : Ent) : Cut (fun x => ordE x one) (entL X s) (entK X s one) := (h.entR s).cut one
theorem ordE_zero {a b : Ent} (h : ordE a b = 0) : a.n = b.n := by
 unfold ordE at h
 split at h
 ·have := (cmpI_zero _ _).1 h; omega
 ·rename_i hh; exact absurd h hh
theorem rises_ins {L : List Ent} {one : Ent} {k : Nat} (h : Rises L) (hc : Cut (fun x => ordE x one) L k) (hn : ∀ e, e ∈ L → e.n ≠ one.n) : Rises (L.take k ++ one :: L.drop k) := by
 have h1 : ∀ x, x ∈ L.take k → ordE x one < 0 := fun x hx => by
  obtain ⟨i, hi, e⟩ := List.mem_take_iff_getElem.1 hx
  exact (hc.lt i x (by rw [List.getElem?_eq_getElem (by omega), e])).2 (by omega)
 have h2 : ∀ x, x ∈ L.drop k → ordE one x < 0 := fun x hx => by
  obtain ⟨i, hi, e⟩ := List.mem_drop_iff_getElem.1 hx
  have h3 : ¬ ordE x one < 0 := fun hh => by
   have := (hc.lt (i + k) x (by rw [List.getElem?_eq_getElem (by omega)]; exact congrArg some (by simpa [Nat.add_comm] using e))).1 hh
   omega
  have h4 : ordE x one ≠ 0 := fun e0 => hn x (List.mem_of_mem_drop hx) (ordE_zero e0)
  have := ordE_ord.anti x one
  have := ordE_ord.range x one
  omega
 unfold Rises at h ⊢
 have h0 := h
 rw [← List.take_append_drop k L, List.pairwise_append] at h0
 rw [List.pairwise_append]
 refine ⟨h0.1, List.pairwise_cons.2 ⟨h2, h0.2.1⟩, fun a ha b hb => ?_⟩
 rcases List.mem_cons.1 hb with rfl | hb
 ·exact h1 a ha
 ·exact h0.2.2 a ha b hb
def withP (P : List Nat → Ent → Prop) (s : List Nat) (one : Ent) (s' : List Nat) (e : Ent) : Prop := P s' e ∨ (s' = s ∧ e = one)
def lessP (P : List Nat → Ent → Prop) (s : List Nat) (one : Ent) (s' : List Nat) (e : Ent) : Prop := P s' e ∧ ¬ (s' = s ∧ e = one)
structure Same (X X' : XI) (k : Nat) : Prop where
 x : X'.x = X.x
 me : X'.me = X.me
 mn : X'.mn = X.mn
 evs : X'.evs = X.evs
 k : X'.k = k
theorem foot_put {X : XI} {m : Nm} {k n : Nat} (hn : X.nms.Pairwise fun a b => a.name ≠ b.name) (hid : (∃ m0, m0 ∈ X.nms ∧ m0.name = m.name ∧ m0.id = m.id) ∨ n ≤ m.id) : ∀ id, XI.foot { X with nms := putM X.nms m, k := k } id → X.foot id ∨ n ≤ id := by
 rintro id (e | e | e | ⟨a, ha, e⟩ | ⟨a, ha, e⟩)
 ·exact .inl (.inl e)
 ·exact .inl (.inr (.inl e))
 ·exact .inl (.inr (.inr (.inl e)))
 ·rcases (mem_putM hn a).1 ha with rfl | ⟨ha, _⟩
  ·rcases hid with ⟨m0, h0, _, h2⟩ | h2
   ·exact .inl (.inr (.inr (.inr (.inl ⟨m0, h0, by rw [e, h2]⟩))))
   ·exact .inr (by rw [e]; exact h2)
  ·exact .inl (.inr (.inr (.inr (.inl ⟨a, ha, e⟩))))
 ·exact .inl (.inr (.inr (.inr (.inr ⟨a, ha, e⟩))))
theorem wf_put {X : XI} {m : Nm} {k n : Nat} (hn : X.nms.Pairwise fun a b => a.name ≠ b.name) (hid : (∃ m0, m0 ∈ X.nms ∧ m0.name = m.name ∧ m0.id = m.id) ∨ n ≤ m.id) : ∀ id, XI.wf { X with nms := putM X.nms m, k := k } id → X.wf id ∨ n ≤ id := by
 rintro id (e | e | ⟨a, ha, e⟩)
 ·exact .inl (.inl e)
 ·exact .inl (.inr (.inl e))
 ·rcases (mem_putM hn a).1 ha with rfl | ⟨ha, _⟩
  ·rcases hid with ⟨m0, h0, _, h2⟩ | h2
   ·exact .inl (.inr (.inr ⟨m0, h0, by rw [e, h2]⟩))
   ·exact .inr (by rw [e]; exact h2)
  ·exact .inl (.inr (.inr ⟨a, ha, e⟩))
theorem ins_step (h : IxAt S X P) (hne : NoEmpty X) (s : List Nat) (one : Ent) (hP : ∀ e, P s e → e.n ≠ one.n) (hk : X.k < 1048576) {bid : Nat} (hb : S.h.get bid = some (.row (encE one) 0 0 false 80)) (hbX : ¬ X.foot bid) (hbl : bid < S.next) :
  ∃ r W T X', ins.q31 [entV X s, .int .i64 (entK X s one : Int), .slice bid 0 0 1 5 5 (some 1)] S = some (r, W) ∧ isPanB r = false ∧ okW r = true ∧ cellsOf r = some [r] ∧ (∀ id, id < S.next → (id = X.x ∨ ¬ X.wf id) → W.h.get id = S.h.get id) ∧ updateV C1 W 71 (.map X.mn) (.str s) r = some (.undef, T) ∧
   IxAt T X' (withP P s one) ∧ NoEmpty X' ∧ Same X X' (X.k + 1) ∧ Step S T X X' := by
 have hcut := h.entCut s one
 have hlen := h.entLen s
 have hris := h.entR s
 have hmem := h.entM s
 have hkle := hcut.le
 have hw : ∀ s' e, s' ≠ s → (withP P s one s' e ↔ P s' e) := fun s' e hs => ⟨fun hp => hp.elim (fun h => h) (fun h => absurd h.1 hs), .inl⟩
 generalize hL : entL X s = L at *
 generalize hK : entK X s one = k at *
 have hrn := rises_ins hris hcut fun e he => hP e ((hmem e).1 he)
 have hmn : ∀ e, e ∈ L.take k ++ one :: L.drop k ↔ withP P s one s e := fun e => by
  have h1 : e ∈ L ↔ e ∈ L.take k ∨ e ∈ L.drop k := by rw [← List.mem_append, List.take_append_drop]
  unfold withP
  rw [← hmem e, h1]
  simp only [List.mem_append, List.mem_cons, true_and]
  constructor
  ·rintro (h | h | h)
   ·exact .inl (.inl h)
   ·exact .inr h
   ·exact .inl (.inr h)
  ·rintro ((h | h) | h)
   ·exact .inl h
   ·exact .inr (.inr h)
   ·exact .inr (.inl h)
 have hll : (L.take k ++ one :: L.drop k).length = L.length + 1 := by
  rw [List.length_append, List.length_cons, List.length_take, List.length_drop]; omega
 rcases h.ent s with ⟨m, hm, hn, e1, e2⟩ | ⟨e1, e2, h3, h4⟩
 ·rw [hL] at e2
  subst e2
  obtain ⟨hml, low, hlow, hrow⟩ := h.row m hm
  obtain ⟨n1, n2, n3⟩ := h.nid m hm
  have hbm : bid ≠ m.id := fun e => hbX (.inr (.inr (.inr (.inl ⟨m, hm, e⟩))))
  have hm0 : 0 < m.L.length := List.length_pos_iff.2 (hne m hm)
  have hq := insA_mk (id := m.id) (g := m.g) (i := k) hrow hb rfl hkle hm0 (by omega) hbm
  obtain ⟨W, hW⟩ : ∃ W : AS, W = ⟨S.h.set m.id (.row ((m.L.take k ++ one :: m.L.drop k).flatMap encE) (m.g + 1) (m.g + 1) false 80), S.next⟩ := ⟨_, rfl⟩
  rw [← hW] at hq
  have hWg : ∀ id, id ≠ m.id → W.h.get id = S.h.get id := fun id hi => by rw [hW]; exact gsN _ _ hi
  have hWm : W.h.get m.id = some (.row ((m.L.take k ++ one :: m.L.drop k).flatMap encE) (m.g + 1) (m.g + 1) false 80) := by rw [hW]; exact gsS _ _ _
  have hWn : W.next = S.next := by rw [hW]
  obtain ⟨T, u1, u2, u3, u4⟩ := update_mpw (cx := C1) (t := 71) (v := .slice m.id (m.g + 1) 0 (m.L.length + 1) ((m.L.length + 1) * 5) 5 none) (k := s) o_mk71 keyStr (h.nm.agree (T := W) (hWg _ (fun e => n3 e.symm)))
  have hmv : (⟨s, m.id, m.g + 1, m.L.take k ++ one :: m.L.drop k⟩ : Nm).v = .slice m.id (m.g + 1) 0 (m.L.length + 1) ((m.L.length + 1) * 5) 5 none := by
   simp only [Nm.v, hll]
  have hidc : (∃ m0, m0 ∈ X.nms ∧ m0.name = (⟨s, m.id, m.g + 1, m.L.take k ++ one :: m.L.drop k⟩ : Nm).name ∧ m0.id = (⟨s, m.id, m.g + 1, m.L.take k ++ one :: m.L.drop k⟩ : Nm).id) ∨ S.next ≤ (⟨s, m.id, m.g + 1, m.L.take k ++ one :: m.L.drop k⟩ : Nm).id := .inl ⟨m, hm, hn, rfl⟩
  refine ⟨_, W, T, { X with nms := putM X.nms ⟨s, m.id, m.g + 1, m.L.take k ++ one :: m.L.drop k⟩, k := X.k + 1 }, ?_, rfl, rfl, rfl, fun id _ hh => hWg id (fun e => hh.elim (fun h => n1 (e.symm.trans h)) fun h => h (.inr (.inr ⟨m, hm, e⟩))), u1, ?_, ?_, ⟨rfl, rfl, rfl, rfl, rfl⟩, ⟨⟨fun id hid hf => ?_, by rw [u4, hWn]; exact Nat.le_refl _⟩, wf_put h.nmk hidc, foot_put h.nmk hidc⟩⟩
  ·rw [e1]; exact hq
  ·refine h.put (m := ⟨s, m.id, m.g + 1, m.L.take k ++ one :: m.L.drop k⟩) hidc (by rw [u4, hWn]; exact hml) (by rw [u4, hWn]; exact Nat.le_refl _) (fun id _ h1 h2 => (u3 id h2).trans (hWg id h1)) ⟨m.g + 1, Nat.le_refl _, (u3 _ n3).trans hWm⟩ ?_ hrn hmn hw (Nat.le_succ _) (by show (m.L.take k ++ one :: m.L.drop k).length ≤ _; omega)
   rw [putM_map, hmv]; exact u2
  ·intro a ha
   rcases (mem_putM h.nmk a).1 ha with rfl | ⟨ha, _⟩
   ·simp
   ·exact hne a ha
  ·rw [u3 id (fun e => hf (.inr (.inl e)))]
   exact hWg id (fun e => hf (.inr (.inr ⟨m, hm, e⟩)))
 ·rw [hL] at e2
  subst e2
  have hk0 : k = 0 := by simp at hkle; exact hkle
  subst hk0
  have hq := insN_mk hb
  obtain ⟨W, hW⟩ : ∃ W : AS, W = ⟨S.h.set S.next (.row (encE one) 0 0 false 80), S.next + 1⟩ := ⟨_, rfl⟩
  rw [← hW] at hq
  have hlmn := h.lmn
  have hWg : ∀ id, id ≠ S.next → W.h.get id = S.h.get id := fun id hi => by rw [hW]; exact gsN _ _ hi
  have hWm : W.h.get S.next = some (.row (encE one) 0 0 false 80) := by rw [hW]; exact gsS _ _ _
  have hWn : W.next = S.next + 1 := by rw [hW]
  obtain ⟨T, u1, u2, u3, u4⟩ := update_mpw (cx := C1) (t := 71) (v := .slice S.next 0 0 1 5 5 none) (k := s) o_mk71 keyStr (h.nm.agree (T := W) (hWg _ (by omega)))
  have hidc : (∃ m0, m0 ∈ X.nms ∧ m0.name = (⟨s, S.next, 0, [one]⟩ : Nm).name ∧ m0.id = (⟨s, S.next, 0, [one]⟩ : Nm).id) ∨ S.next ≤ (⟨s, S.next, 0, [one]⟩ : Nm).id := .inr (Nat.le_refl _)
  refine ⟨_, W, T, { X with nms := putM X.nms ⟨s, S.next, 0, [one]⟩, k := X.k + 1 }, ?_, rfl, rfl, rfl, fun id hlt _ => hWg id (by omega), u1, ?_, ?_, ⟨rfl, rfl, rfl, rfl, rfl⟩, ⟨⟨fun id hid hf => ?_, by rw [u4, hWn]; exact Nat.le_succ _⟩, wf_put h.nmk hidc, foot_put h.nmk hidc⟩⟩
  ·rw [e1]; exact hq
  ·refine h.put (m := ⟨s, S.next, 0, [one]⟩) hidc (by rw [u4, hWn]; exact Nat.lt_succ_self _) (by rw [u4, hWn]; exact Nat.le_succ _) (fun id _ h1 h2 => (u3 id h2).trans (hWg id h1)) ⟨0, Nat.le_refl _, ?_⟩ ?_ hrn hmn hw (Nat.le_succ _) (by show 1 ≤ _; omega)
   ·show T.h.get S.next = _
    rw [u3 _ (by omega), hWm]
    simp
   ·rw [putM_map]; exact u2
  ·intro a ha
   rcases (mem_putM h.nmk a).1 ha with rfl | ⟨ha, _⟩
   ·simp
   ·exact hne a ha
  ·rw [u3 id (fun e => hf (.inr (.inl e)))]
   exact hWg id (by omega)
theorem cut_at {L : List Ent} {one : Ent} {k : Nat} (h : Rises L) (hc : Cut (fun x => ordE x one) L k) (hm : one ∈ L) : L[k]? = some one := by
 obtain ⟨j, hj, e⟩ := List.getElem_of_mem hm
 have hx : L[j]? = some one := by rw [List.getElem?_eq_getElem hj, e]
 have h0 := ordE_ord.self one
 have h1 : ¬ j < k := fun hlt => by have := (hc.lt j one hx).2 hlt; omega
 by_cases hjk : k = j
 ·rw [hjk]; exact hx
 ·have hkl : k < L.length := by omega
  have h2 := List.pairwise_iff_getElem.1 h k j hkl hj (by omega)
  rw [e] at h2
  have := (hc.lt k L[k] (List.getElem?_eq_getElem hkl)).1 h2
  omega
theorem rises_del {L : List Ent} {one : Ent} {k : Nat} (h : Rises L) (hx : L[k]? = some one) : Rises (L.take k ++ L.drop (k + 1)) ∧ (∀ e, e ∈ L.take k ++ L.drop (k + 1) ↔ e ∈ L ∧ e ≠ one) ∧ (L.take k ++ L.drop (k + 1)).length = L.length - 1 := by
 obtain ⟨hk, e⟩ := List.getElem?_eq_some_iff.1 hx
 have hL : L = L.take k ++ one :: L.drop (k + 1) := by
  have := List.take_append_drop k L
  rw [List.drop_eq_getElem_cons hk, e] at this
  exact this.symm
 have hp : (L.take k ++ one :: L.drop (k + 1)).Pairwise fun a b => ordE a b < 0 := by rw [← hL]; exact h
 rw [List.pairwise_append] at hp
 obtain ⟨p1, p2, p3⟩ := hp
 obtain ⟨p4, p5⟩ := List.pairwise_cons.1 p2
 have h0 := ordE_ord.self one
 refine ⟨?_, fun e => ?_, ?_⟩
 ·unfold Rises
  rw [List.pairwise_append]
  exact ⟨p1, p5, fun a ha b hb => p3 a ha b (List.mem_cons_of_mem _ hb)⟩
 ·have hm : e ∈ L ↔ e ∈ L.take k ∨ e = one ∨ e ∈ L.drop (k + 1) := by
   conv => lhs; rw [hL]
   simp
  rw [hm, List.mem_append]
  constructor
  ·rintro (h | h)
   ·exact ⟨.inl h, fun e2 => by have := p3 e h one (List.mem_cons_self ..); rw [e2] at this; omega⟩
   ·exact ⟨.inr (.inr h), fun e2 => by have := p4 e h; rw [e2] at this; omega⟩
  ·rintro ⟨h | h | h, h2⟩
   ·exact .inl h
   ·exact absurd h h2
   ·exact .inr h
 ·rw [List.length_append, List.length_take, List.length_drop]; omega
theorem foot_drop {X : XI} {s : List Nat} {n : Nat} (hn : X.nms.Pairwise fun a b => a.name ≠ b.name) : ∀ id, XI.foot { X with nms := delM X.nms s } id → X.foot id ∨ n ≤ id := by
 rintro id (e | e | e | ⟨a, ha, e⟩ | ⟨a, ha, e⟩)
 ·exact .inl (.inl e)
 ·exact .inl (.inr (.inl e))
 ·exact .inl (.inr (.inr (.inl e)))
 ·exact .inl (.inr (.inr (.inr (.inl ⟨a, ((mem_delM hn a).1 ha).1, e⟩))))
 ·exact .inl (.inr (.inr (.inr (.inr ⟨a, ha, e⟩))))
theorem wf_drop {X : XI} {s : List Nat} (hn : X.nms.Pairwise fun a b => a.name ≠ b.name) : ∀ id, XI.wf { X with nms := delM X.nms s } id → X.wf id := by
 rintro id (e | e | ⟨a, ha, e⟩)
 ·exact .inl e
 ·exact .inr (.inl e)
 ·exact .inr (.inr ⟨a, ((mem_delM hn a).1 ha).1, e⟩)
theorem del_step (h : IxAt S X P) (hne : NoEmpty X) (s : List Nat) (one : Ent) (hP : P s one) (hk : X.k ≤ 1048576) :
  ∃ r W T XM, ins.q34 [entV X s, .int .i64 (entK X s one : Int), .int .i64 ((entK X s one + 1 : Nat) : Int)] S = some (r, W) ∧ isPanB r = false ∧ okW r = true ∧ cellsOf r = some [r] ∧ (∀ id, id < S.next → (id = X.x ∨ ¬ X.wf id) → W.h.get id = S.h.get id) ∧ updateV C1 W 71 (.map X.mn) (.str s) r = some (.undef, T) ∧
   IxAt T XM (lessP P s one) ∧ Same X XM X.k ∧ Step S T X XM ∧ ((entL X s).length ≠ 1 → NoEmpty XM) ∧
   ((entL X s).length = 1 → ∃ U X', deleteV C1 T 71 (.map X.mn) (.str s) = some (.undef, U) ∧ IxAt U X' (lessP P s one) ∧ NoEmpty X' ∧ Same X X' X.k ∧ Step S U X X') := by
 have hcut := h.entCut s one
 have hlen := h.entLen s
 have hris := h.entR s
 have hmem := h.entM s
 have hkle := hcut.le
 have hw : ∀ s' e, s' ≠ s → (lessP P s one s' e ↔ P s' e) := fun s' e hs => ⟨fun hp => hp.1, fun hp => ⟨hp, fun h => hs h.1⟩⟩
 generalize hL : entL X s = L at *
 generalize hK : entK X s one = k at *
 have hat := cut_at hris hcut ((hmem one).2 hP)
 obtain ⟨hrn, hmd, hll⟩ := rises_del hris hat
 have hkl : k < L.length := (List.getElem?_eq_some_iff.1 hat).1
 have hmn : ∀ e, e ∈ L.take k ++ L.drop (k + 1) ↔ lessP P s one s e := fun e => by
  rw [hmd e, hmem e]
  exact ⟨fun hh => ⟨hh.1, fun h2 => hh.2 h2.2⟩, fun hh => ⟨hh.1, fun h2 => hh.2 ⟨rfl, h2⟩⟩⟩
 rcases h.ent s with ⟨m, hm, hn, e1, e2⟩ | ⟨_, _, _, h4⟩
 ·rw [hL] at e2
  subst e2
  obtain ⟨hml, low, hlow, hrow⟩ := h.row m hm
  obtain ⟨n1, n2, n3⟩ := h.nid m hm
  have hq := delA_mk (id := m.id) (g := m.g) (i := k) hrow rfl hkl (by omega)
  obtain ⟨W, hW⟩ : ∃ W : AS, W = ⟨S.h.set m.id (.row ((m.L.take k ++ m.L.drop (k + 1)).flatMap encE) (m.g + 1) (m.g + 1) false 80), S.next⟩ := ⟨_, rfl⟩
  rw [← hW] at hq
  have hWg : ∀ id, id ≠ m.id → W.h.get id = S.h.get id := fun id hi => by rw [hW]; exact gsN _ _ hi
  have hWm : W.h.get m.id = some (.row ((m.L.take k ++ m.L.drop (k + 1)).flatMap encE) (m.g + 1) (m.g + 1) false 80) := by rw [hW]; exact gsS _ _ _
  have hWn : W.next = S.next := by rw [hW]
  obtain ⟨T, u1, u2, u3, u4⟩ := update_mpw (cx := C1) (t := 71) (v := .slice m.id (m.g + 1) 0 (m.L.length - 1) ((m.L.length - 1) * 5) 5 none) (k := s) o_mk71 keyStr (h.nm.agree (T := W) (hWg _ (fun e => n3 e.symm)))
  have hmv : (⟨s, m.id, m.g + 1, m.L.take k ++ m.L.drop (k + 1)⟩ : Nm).v = .slice m.id (m.g + 1) 0 (m.L.length - 1) ((m.L.length - 1) * 5) 5 none := by
   simp only [Nm.v, hll]
  have hidc : (∃ m0, m0 ∈ X.nms ∧ m0.name = (⟨s, m.id, m.g + 1, m.L.take k ++ m.L.drop (k + 1)⟩ : Nm).name ∧ m0.id = (⟨s, m.id, m.g + 1, m.L.take k ++ m.L.drop (k + 1)⟩ : Nm).id) ∨ S.next ≤ (⟨s, m.id, m.g + 1, m.L.take k ++ m.L.drop (k + 1)⟩ : Nm).id := .inl ⟨m, hm, hn, rfl⟩
  have hTn : S.next ≤ T.next := by rw [u4, hWn]; exact Nat.le_refl _
  have hI : IxAt T { X with nms := putM X.nms ⟨s, m.id, m.g + 1, m.L.take k ++ m.L.drop (k + 1)⟩, k := X.k } (lessP P s one) := by
   refine h.put (m := ⟨s, m.id, m.g + 1, m.L.take k ++ m.L.drop (k + 1)⟩) hidc (by rw [u4, hWn]; exact hml) hTn (fun id _ h1 h2 => (u3 id h2).trans (hWg id h1)) ⟨m.g + 1, Nat.le_refl _, (u3 _ n3).trans hWm⟩ ?_ hrn hmn hw (Nat.le_refl _) (by show (m.L.take k ++ m.L.drop (k + 1)).length ≤ _; omega)
   rw [putM_map, hmv]; exact u2
  have hkeep : Keep X.wf S T := ⟨fun id hid hf => by
   rw [u3 id (fun e => hf (.inr (.inl e)))]
   exact hWg id (fun e => hf (.inr (.inr ⟨m, hm, e⟩))), hTn⟩
  refine ⟨_, W, T, { X with nms := putM X.nms ⟨s, m.id, m.g + 1, m.L.take k ++ m.L.drop (k + 1)⟩, k := X.k }, ?_, rfl, rfl, rfl, fun id _ hh => hWg id (fun e => hh.elim (fun h => n1 (e.symm.trans h)) fun h => h (.inr (.inr ⟨m, hm, e⟩))), u1, hI, ⟨rfl, rfl, rfl, rfl, rfl⟩, ⟨hkeep, wf_put h.nmk hidc, foot_put h.nmk hidc⟩, fun h1 => ?_, fun h1 => ?_⟩
  ·rw [e1]; exact hq
  ·intro a ha
   rcases (mem_putM h.nmk a).1 ha with rfl | ⟨ha, _⟩
   ·intro e0
    have : (m.L.take k ++ m.L.drop (k + 1)).length = 0 := by
     have e0' : m.L.take k ++ m.L.drop (k + 1) = [] := e0
     rw [e0']; rfl
    omega
   ·exact hne a ha
  ·obtain ⟨U, d1, d2, d3, d4⟩ := delete_mpw (cx := C1) (t := 71) (k := s) o_mk71 keyStr hI.nm
   have hnil : m.L.take k ++ m.L.drop (k + 1) = [] := List.length_eq_zero_iff.1 (by omega)
   have hD := hI.drop (T := U) (s := s) (by rw [d4]; exact Nat.le_refl _) (fun id _ h2 => d3 id h2) (by rw [delM_map]; exact d2) (fun e hp => by
    have := (hmn e).2 hp
    rw [hnil] at this
    cases this)
   refine ⟨U, _, d1, hD, ?_, ⟨rfl, rfl, rfl, rfl, rfl⟩, ⟨hkeep.trans ⟨fun id h1 h2 => d3 id (fun e => h2 (.inr (.inl e))), by rw [d4]; exact Nat.le_refl _⟩, fun id hf => wf_put h.nmk hidc id (wf_drop hI.nmk id hf), fun id hf => ?_⟩⟩
   ·intro a ha
    have ha2 := (mem_delM hI.nmk a).1 ha
    rcases (mem_putM h.nmk a).1 ha2.1 with rfl | ⟨ha, _⟩
    ·exact absurd rfl ha2.2
    ·exact hne a ha
   ·rcases foot_drop (n := S.next) hI.nmk id hf with h1 | h1
    ·exact foot_put h.nmk hidc id h1
    ·exact .inr h1
 ·exact absurd hP (h4 one)
end
theorem okAt_of {l : List Att} (h : mayL l = true) {i : Nat} (hi : i < l.length) : okAt l i = true := by
 unfold mayL at h
 rw [List.all_eq_true] at h
 exact h i (List.mem_range.2 hi)
theorem names_rise {l : List Att} (h : mayL l = true) : l.Pairwise fun a b => ltS a.name b.name = true := by
 rw [List.pairwise_iff_getElem]
 have step : ∀ j (hj : j + 1 < l.length), ltS l[j].name l[j + 1].name = true := fun j hj => by
  have h1 := okAt_of h hj
  have hx : l[j + 1]? = some l[j + 1] := List.getElem?_eq_getElem hj
  have hy : l[j]? = some l[j] := List.getElem?_eq_getElem (by omega)
  rw [okAt_s hx hy] at h1
  simp only [Bool.and_eq_true] at h1
  exact h1.2
 intro i j hi hj hij
 obtain ⟨d, rfl⟩ : ∃ d, j = i + 1 + d := ⟨j - (i + 1), by omega⟩
 clear hij
 induction d with
 | zero => exact step i hj
 | succ d ih => exact ltS_trans _ _ _ (ih (by omega)) (step (i + 1 + d) hj)
theorem names_ne {l : List Att} (h : mayL l = true) {i : Nat} {a b : Att} (ha : l[i]? = some a) (hb : b ∈ l.take i) : b.name ≠ a.name := by
 obtain ⟨hi, rfl⟩ := List.getElem?_eq_some_iff.1 ha
 obtain ⟨j, hj, rfl⟩ := List.mem_take_iff_getElem.1 hb
 have := List.pairwise_iff_getElem.1 (names_rise h) j i (by omega) hi (by omega)
 intro e
 rw [e, ltS_irr] at this
 cases this
theorem evMay_l {key : List Nat} {l : List Att} (h : evMay key l = true) : mayL l = true ∧ l.length ≤ 8 := by
 unfold evMay at h
 simp only [Bool.and_eq_true, decide_eq_true_eq] at h
 exact ⟨h.1.1, h.2⟩
def partP (X : XI) (n : Nat) (l : List Att) (s : List Nat) (e : Ent) : Prop := hasP X s e ∨ (e.n = n ∧ (⟨s, e.v⟩ : Att) ∈ l)
def addH (S : AS) (X : XI) (n : Nat) (ev : Ev) (u : AV) (k : Nat) (F' : Fr) (S' : AS) : Prop :=
 ∃ (i : Nat) (Y : XI), IxAt S' Y (partP X n (ev.atts.take i)) ∧ NoEmpty Y ∧ Y.evs = X.evs ++ [ev] ∧ Y.x = X.x ∧ Y.k ≤ X.k + 1 + i ∧ Step S S' X Y ∧
  sl F' 0 = .ptr X.x 0 0 2 ∧ sl F' 1 = .int .u64 (n : Int) ∧ sl F' 44 = u ∧ sl F' 45 = .int .i64 (ev.atts.length : Int) ∧ sl F' 46 = .int .i64 (i : Int) ∧ i ≤ ev.atts.length ∧ k = ev.atts.length - i ∧ F'.n = 79
theorem addH_mk {S : AS} {X : XI} {n : Nat} {ev : Ev} {u : AV} {k : Nat} {F' : Fr} {S' : AS} (i : Nat) (Y : XI) (h1 : IxAt S' Y (partP X n (ev.atts.take i))) (h2 : NoEmpty Y) (h3 : Y.evs = X.evs ++ [ev]) (h4 : Y.x = X.x) (h5 : Y.k ≤ X.k + 1 + i) (h6 : Step S S' X Y)
  (h7 : sl F' 0 = .ptr X.x 0 0 2) (h8 : sl F' 1 = .int .u64 (n : Int)) (h9 : sl F' 44 = u) (h10 : sl F' 45 = .int .i64 (ev.atts.length : Int)) (h11 : sl F' 46 = .int .i64 (i : Int)) (h12 : i ≤ ev.atts.length) (h13 : k = ev.atts.length - i) (h14 : F'.n = 79) : addH S X n ev u k F' S' :=
 ⟨i, Y, h1, h2, h3, h4, h5, h6, h7, h8, h9, h10, h11, h12, h13, h14⟩
theorem nt9 : Tryz.f9.ntmps = 79 := by kernel_rfl
theorem Step.sl {S T : AS} {X Y : XI} {u : AV} {sz : Nat} {cs : List AV} (h : Step S T X Y) (hu : Sl S u sz cs) (hx : ∀ id, bnd u = id + 1 → ¬ X.wf id) : Sl T u sz cs :=
 hu.agree (fun id hb => h.keep.h id (by have := hu.old; omega) (hx id hb)) h.keep.next
structure Added (S T : AS) (X X' : XI) (n : Nat) (key : List Nat) (atts : List Att) (r : AV) : Prop where
 ix : IxAt T X' (hasP X')
 ne : NoEmpty X'
 step : Step S T X X'
 x : X'.x = X.x
 k : X'.k ≤ X.k + 9
 what : (evMay key atts = false ∧ r = .int .i64 30 ∧ X'.evs = X.evs) ∨ (evMay key atts = true ∧ (∃ e, e ∈ X.evs ∧ e.n = n) ∧ r = .int .i64 9 ∧ X'.evs = X.evs) ∨
  (evMay key atts = true ∧ (∀ e, e ∈ X.evs → e.n ≠ n) ∧ r = .int .i64 0 ∧ ∃ u', X'.evs = X.evs ++ [⟨n, key, u', atts⟩])
section
variable {S : AS} {X : XI}
set_option maxRecDepth 20000 in
set_option maxHeartbeats 2000000 in
theorem add9 {n : Nat} {key : List Nat} {u : AV} {atts : List Att} (h : IxAt S X (hasP X)) (hne : NoEmpty X) (hu : AttsAt S u atts) (hux : ∀ id, bnd u = id + 1 → ¬ X.wf id) (hk : X.k + 100 ≤ 1048576) :
  CallW C1 9 [.ptr X.x 0 0 2, .int .u64 (n : Int), .agg [.str key, u]] S fun r T => ∃ X', Added S T X X' n key atts r := by
 have hS1 : Sub S ⟨S.h.set S.next (.row [.str key, u] 0 0 false 33), S.next + 1⟩ := sub1
 have h1 := h.sub hS1
 obtain ⟨r1, T1, ⟨rfl, hT1⟩, e1⟩ := (up1 (evMay10 (key := key) (hu.sub hS1))).ex
 have hS2 := hS1.trans hT1
 have h2 := h.sub hS2
 have gb : T1.h.get S.next = some (.row [.str key, u] 0 0 false 33) := by rw [hT1.h _ (Nat.lt_succ_self _)]; exact gsS _ _ _
 have u1 := hu.sl.sl
 have u2 := hu.sl.len_flat zcA (by omega)
 have hT1n : S.next + 1 ≤ T1.next := hT1.next
 have hlx := h.lx
 refine enterW (pu1 _) (pr1 _ rfl) o_fn9 rfl o_ok9 (by simp) fun F hn hs => ?_
 rw [nt9] at hn
 have s0 := hs 0
 have s1 := hs 1
 have s2 := hs 2
 clear hs
 simp only [List.getElem?_cons_zero, List.getElem?_cons_succ, Option.getD_some] at s0 s1 s2
 cases hm : evMay key atts with
 | false =>
  rw [hm] at e1
  simp [s0, s1, s2, ex1, none27 h1, hu.sl.cells, e1]
  exact ⟨X, h2, hne, Step.of_sub hS2, rfl, by omega, .inl ⟨hm, rfl, rfl⟩⟩
 | true =>
  rw [hm] at e1
  obtain ⟨hml, hm8⟩ := evMay_l hm
  have lk := lookup_mp (cx := C1) (t := 70) (k := n) (ok := true) o_mk70 keyNum (h2.em.mp h2.lme)
  have hx2 := h2.x
  rcases h2.findE n with ⟨e, he, hen, hg⟩ | ⟨hg, hnew⟩
  ·rw [hg] at lk
   simp [Ev.v] at lk
   have hcell : ∀ e, e ∈ X.evs → cellsOf e.u = some [e.u] := fun e he => (h.att e he).sl.cells
   have hsub3 : Sub S ⟨(T1.h.set T1.next (.row [.str [], .nils] 0 0 false 33)).set T1.next (.row [.str e.key, e.u] 0 0 false 33), T1.next + 1⟩ := hS2.trans sub1s
   simp [s0, s1, s2, ex1, none27 h1, hu.sl.cells, e1, hx2, lk, hcell e he]
   exact ⟨X, h.sub hsub3, hne, Step.of_sub hsub3, rfl, by omega, .inr (.inl ⟨hm, ⟨e, he, hen⟩, rfl, rfl⟩)⟩
  ·rw [hg] at lk
   simp at lk
   have hsub3 : Sub T1 ⟨(T1.h.set T1.next (.row [.str [], .nils] 0 0 false 33)).set T1.next (.row [.str [], .nils] 0 0 false 33), T1.next + 1⟩ := sub1s
   have h3 := h2.sub hsub3
   have hx3 := h3.x
   have gb3 : (⟨(T1.h.set T1.next (.row [.str [], .nils] 0 0 false 33)).set T1.next (.row [.str [], .nils] 0 0 false 33), T1.next + 1⟩ : AS).h.get S.next = some (.row [.str key, u] 0 0 false 33) := by rw [hsub3.h _ (by omega)]; exact gb
   obtain ⟨u', T2, ⟨hT2, c1, c2, c3, c4⟩, e2⟩ := (up1 (clone75 ((hu.sub hS2).sub hsub3).sl (by rw [u2]; exact hu.le))).ex
   have h4 := h3.sub hT2
   have hT2n : T1.next + 1 ≤ T2.next := hT2.next
   have gb4 : T2.h.get S.next = some (.row [.str key, u] 0 0 false 33) := by rw [hT2.h _ (by show S.next < T1.next + 1; omega)]; exact gb3
   obtain ⟨T3, d1, d2, d3, d4⟩ := update_mpw (cx := C1) (t := 70) (v := .agg [.str key, u']) (k := n) o_mk70 keyNum h4.em
   have hput : mput (X.evs.map evP) n (.agg [.str key, u']) = (X.evs ++ [(⟨n, key, u', atts⟩ : Ev)]).map evP := by
    have : ∀ (l : List Ev) (w : AV), (∀ e, e ∈ l → e.n ≠ n) → mput (l.map evP) n w = l.map evP ++ [(n, w)] := by
     intro l
     induction l with
     | nil => intro w _; rfl
     | cons a l ih =>
      intro w hh
      have h1 : ¬ n = a.n := fun e => hh a (List.mem_cons_self ..) e.symm
      simp only [List.map_cons, List.cons_append]
      show mput ((a.n, a.v) :: l.map evP) n w = _
      rw [mput, if_neg h1, ih w fun e he => hh e (List.mem_cons_of_mem _ he)]
      rfl
    rw [this _ _ hnew, List.map_append]
    rfl
   rw [hput] at d2
   have hlme := h4.lme
   have hlme3 := h.lme
   have hT1x : S.next ≤ T1.next := hS2.next
   have h5 : IxAt T3 { X with evs := X.evs ++ [⟨n, key, u', atts⟩], k := X.k + 1 } (hasP X) := by
    refine h3.add (ev := ⟨n, key, u', atts⟩) hnew (by rw [d4]; exact hT2n) (fun id hf hne => (d3 id hne).trans (hT2.h id (h3.foot_lt hf))) d2 ⟨c1.agree (fun id hb => d3 id ?_) (by rw [d4]; exact Nat.le_refl _), hu.le⟩ c4
    rcases c4 with c4 | c4
    ·omega
    ·have : T1.next + 1 < bnd u' := c4
     omega
   have hst : Step S T3 X { X with evs := X.evs ++ [⟨n, key, u', atts⟩], k := X.k + 1 } := by
    refine ⟨⟨fun id hid hf => ?_, by rw [d4]; omega⟩, fun id hf => .inl hf, fun id hf => ?_⟩
    ·rw [d3 id (fun e => hf (.inl e)), hT2.h id (by show id < T1.next + 1; omega), hsub3.h id (by omega)]
     exact hS2.h id hid
    ·rcases hf with e | e | e | e | ⟨a, ha, e⟩
     ·exact .inl (.inl e)
     ·exact .inl (.inr (.inl e))
     ·exact .inl (.inr (.inr (.inl e)))
     ·exact .inl (.inr (.inr (.inr (.inl e))))
     ·rcases List.mem_append.1 ha with ha | ha
      ·exact .inl (.inr (.inr (.inr (.inr ⟨a, ha, e⟩))))
      ·simp at ha
       subst ha
       have e' : bnd u' = id + 1 := e
       rcases c4 with c4 | c4
       ·omega
       ·have : T1.next + 1 < bnd u' := c4
        right; omega
   have gb5 : T3.h.get S.next = some (.row [.str key, u] 0 0 false 33) := by
    rw [d3 _ (by have := h.lme; omega)]; exact gb4
   simp [s0, s1, s2, ex1, none27 h1, hu.sl.cells, e1, hx2, lk, hn]
   refine draws [.p, .p, .p, .r 0 1, .p, .p, .r 0 1, .p, .r 0 0, .e [], .p, .e []] (n := 79) (by kernel_rfl) (by simp [hn]) ?_
   have hx4 := h4.x
   simp [s0, s1, s2, ex1, hu.sl.cells, hx3, hx4, gb3, gb4, gb5, okW_sl hu.sl, okW_sl c1, c1.cells, c1.np, agg_u c1, e2, d1, hn, u1, u2]
   have hP0 : ∀ s e, hasP X s e ↔ partP X n (atts.take 0) s e := fun s e => ⟨.inl, fun h => h.elim (fun h => h) fun h => by simp at h⟩
   refine zaH (addH S X n ⟨n, key, u', atts⟩ u) atts.length (addH_mk 0 _ (h5.iff hP0) hne rfl rfl (Nat.le_refl _) hst (by simp [s0]) (by simp [s1]) (by simp) (by simp) (by simp) (Nat.zero_le _) rfl (by simp [hn])) ?_
   clear s0 s1 s2 hn e1 e2 d1
   rintro k F' S' hn' ⟨i, Y, y1, y2, y3, y4, y5, y6, t0, t1, t44, t45, t46, hi, hk', hn2⟩
   clear hn'
   simp only at y1 t45 hi hk'
   have hS'n : S.next ≤ S'.next := y6.keep.next
   have huS := y6.sl hu.sl hux
   by_cases hi' : i < atts.length
   ·have hx : atts[i]? = some atts[i] := List.getElem?_eq_getElem hi'
    have hlo := zbC (cx := C1) (e := 65) huS zcA (by omega) hx o_ag65 o_sz65
    have hnm : ∀ b, b ∈ atts.take i → b.name ≠ atts[i].name := fun b hb => names_ne hml hx hb
    have htk : atts.take (i + 1) = atts.take i ++ [atts[i]] := List.take_succ_eq_append_getElem hi'
    generalize atts[i] = a at hx hlo hnm htk
    obtain ⟨one, hone⟩ : ∃ one : Ent, one = ⟨a.val, n⟩ := ⟨_, rfl⟩
    have eone : encE one = [.int .i64 a.val.kind, .int .i64 a.val.num, .str a.val.str, .bool a.val.bool, .int .u64 (n : Int)] := by rw [hone]; rfl
    have hA1 : Sub S' ⟨(S'.h.set S'.next (.row [.str [], .int .i64 0, .int .i64 0, .str [], .bool false] 0 0 false 65)).set S'.next (.row (encA a) 0 0 false 65), S'.next + 1⟩ := sub1s
    have yA := y1.sub hA1
    have xA := yA.x
    have lkA := yA.lookup a.name
    have gA : (⟨(S'.h.set S'.next (.row [.str [], .int .i64 0, .int .i64 0, .str [], .bool false] 0 0 false 65)).set S'.next (.row (encA a) 0 0 false 65), S'.next + 1⟩ : AS).h.get S'.next = some (.row (encA a) 0 0 false 65) := gsS _ _ _
    obtain ⟨A1, eA1⟩ : ∃ A1 : AS, A1 = ⟨(S'.h.set S'.next (.row [.str [], .int .i64 0, .int .i64 0, .str [], .bool false] 0 0 false 65)).set S'.next (.row (encA a) 0 0 false 65), S'.next + 1⟩ := ⟨_, rfl⟩
    have nA1 : A1.next = S'.next + 1 := by rw [eA1]
    rw [← eA1] at hA1 yA xA lkA gA
    have hA2 : Sub A1 ⟨(A1.h.set A1.next (.row [.int .i64 0, .int .i64 0, .str [], .bool false, .int .u64 0] 0 0 false 80)).set A1.next (.row (encE one) 0 0 false 80), A1.next + 1⟩ := sub1s
    have yB := yA.sub hA2
    have hZ : Sub A1 ⟨A1.h.set A1.next (.row [.int .i64 0, .int .i64 0, .str [], .bool false, .int .u64 0] 0 0 false 80), A1.next + 1⟩ := sub1
    have xZ := (yA.sub hZ).x
    have lkZ := (yA.sub hZ).lookup a.name
    have gZ : (⟨A1.h.set A1.next (.row [.int .i64 0, .int .i64 0, .str [], .bool false, .int .u64 0] 0 0 false 80), A1.next + 1⟩ : AS).h.get S'.next = some (.row (encA a) 0 0 false 65) := by rw [hZ.h _ (by omega)]; exact gA
    have gA2 : (⟨(A1.h.set A1.next (.row [.int .i64 0, .int .i64 0, .str [], .bool false, .int .u64 0] 0 0 false 80)).set A1.next (.row (encE one) 0 0 false 80), A1.next + 1⟩ : AS).h.get A1.next = some (.row (encE one) 0 0 false 80) := gsS _ _ _
    obtain ⟨w, B, ⟨rfl, hB⟩, e3⟩ := (up1 (search29 (yB.entSl a.name) (by have := yB.entLen a.name; omega) (yB.entCut a.name one))).ex
    have hAB := hA2.trans hB
    have hSB := hA1.trans hAB
    have nB : A1.next + 1 ≤ B.next := hB.next
    have gB1 : B.h.get S'.next = some (.row (encA a) 0 0 false 65) := by rw [hAB.h _ (by omega)]; exact gA
    have gB2 : B.h.get A1.next = some (.row (encE one) 0 0 false 80) := by rw [hB.h _ (Nat.lt_succ_self _)]; exact gA2
    have hC : Sub B ⟨B.h.set B.next (.row (encE one) 0 0 false 80), B.next + 1⟩ := sub1
    have yC := y1.sub (hSB.trans hC)
    have xB := (y1.sub hSB).x
    have xC := yC.x
    have lS'x := y1.lx
    obtain ⟨r, W, V, Z, q1, q2, q3, q3c, q4, q5, z1, z2, z3, z4⟩ := ins_step yC y2 a.name one (fun e he => by
     rw [hone]
     rcases he with ⟨ev, h1, h2, _⟩ | ⟨h1, h2⟩
     ·exact fun e0 => hnew ev h1 (h2.trans e0)
     ·exact absurd rfl (hnm (⟨a.name, e.v⟩ : Att) h2)) (by omega) (bid := B.next) (gsS _ _ _) (fun hf => by have := y1.foot_lt hf; have := hSB.next; omega) (Nat.lt_succ_self _)
    have gW1 : W.h.get S'.next = some (.row (encA a) 0 0 false 65) := by
     rw [q4 _ (by show S'.next < B.next + 1; omega) (.inr (fun hf => by have := y1.foot_lt (XI.wf_foot hf); omega)), hC.h _ (by omega)]; exact gB1
    have gW2 : W.h.get A1.next = some (.row (encE one) 0 0 false 80) := by
     rw [q4 _ (by show A1.next < B.next + 1; omega) (.inr (fun hf => by have := y1.foot_lt (XI.wf_foot hf); omega)), hC.h _ (by omega)]; exact gB2
    have gC1 : (⟨B.h.set B.next (.row (encE one) 0 0 false 80), B.next + 1⟩ : AS).h.get S'.next = some (.row (encA a) 0 0 false 65) := by rw [hC.h _ (by omega)]; exact gB1
    have gC2 : (⟨B.h.set B.next (.row (encE one) 0 0 false 80), B.next + 1⟩ : AS).h.get A1.next = some (.row (encE one) 0 0 false 80) := by rw [hC.h _ (by omega)]; exact gB2
    have xW : W.h.get Y.x = some (.row [.map Y.me, .map Y.mn] 0 0 false 73) := by
     rw [q4 _ (by show Y.x < B.next + 1; have := hSB.next; omega) (.inl rfl)]; exact xC
    have e31 := fun Q => callW_prim (Q := Q) get31 (pu1 31) q1 q2
    have ecs := (yA.entSl a.name).cells
    have enp := (yA.entSl a.name).np
    have eok := okW_sl (yA.entSl a.name)
    rw [y4] at xA xB xC xW xZ
    simp only [encA, encV] at hlo eA1 gA gB1 gC1 gW1 gZ
    rw [eone] at e3 gA2 gB2 gC2 gW2 e31 xC gC1
    simp [t0, t1, t44, t45, t46, hi', u1, u2, hlo, hn2, ← eA1]
    refine draws [.p, .p, .p, .r 0 1, .p, .r 0 1, .r 0 1, .p, .r 0 1, .p, .p, .e [], .p, .e []] (n := 79) (by kernel_rfl) (by simp [hn2]) ?_
    simp [t0, t1, t44, t45, t46, hn2, xA, gA, lkA, eok, ex1, e3, ecs, gA2, xZ, lkZ, gZ]
    have hfr : ∀ (F : Fr) (id : Nat), sl F 75 = .agg [.int .i64 a.val.kind, .int .i64 a.val.num, .str a.val.str, .bool a.val.bool, .int .u64 (n : Int)] → freshV C1 F id (.buildSlice 78 1 #[(0, .tmp 75)]) = some (.slice id 0 0 1 5 5 (some 1), .row [.int .i64 a.val.kind, .int .i64 a.val.num, .str a.val.str, .bool a.val.bool, .int .u64 (n : Int)] 0 0 false 80) := fun F id hF => by
     have := freshV_els (cx := C1) (F := F) (t := 78) (id := id) (n := 1) (a := #[(0, .tmp 75)]) [[.int .i64 a.val.kind, .int .i64 a.val.num, .str a.val.str, .bool a.val.bool, .int .u64 (n : Int)]] o_st78 rfl (by simp [zaE, hF, cellsOf]) (by simp) (by decide)
     simpa using this
    refine draws [.p, .p, .p, .r 0 2, .p, .r 0 2, .p, .p, .r 0 0, .e [], .e [], .e []] (n := 79) (by kernel_rfl) (by simp [hn2]) ?_
    simp [t0, t1, t44, t45, t46, hn2, xB, xC, xW, gB1, gB2, gC1, gC2, gW1, gW2, eok, ex1, hfr, e31, q2, q3, q3c, q5]
    have hPi : ∀ s e, withP (partP X n (atts.take i)) a.name one s e ↔ partP X n (atts.take (i + 1)) s e := fun s e => by
     unfold withP partP
     rw [htk, List.mem_append, List.mem_singleton]
     constructor
     ·rintro ((h1 | ⟨h1, h2⟩) | ⟨h1, h2⟩)
      ·exact .inl h1
      ·exact .inr ⟨h1, .inl h2⟩
      ·rw [h2, h1, hone]
       exact .inr ⟨rfl, .inr rfl⟩
     ·rintro (h1 | ⟨h1, h2 | h2⟩)
      ·exact .inl (.inl h1)
      ·exact .inl (.inr ⟨h1, h2⟩)
      ·obtain ⟨ev, en⟩ := e
       simp only at h1 h2
       subst h1
       have ha : a.name = s := by rw [← h2]
       have hv : a.val = ev := by rw [← h2]
       exact .inr ⟨ha.symm, by rw [hone, hv]⟩
    exact ⟨atts.length - (i + 1), by omega, addH_mk (i + 1) Z (z1.iff hPi) z2 (z3.evs.trans y3) (z3.x.trans y4) (by rw [z3.k]; omega) ((y6.trans (Step.of_sub (hSB.trans hC))).trans z4)
     (by simp [t0]) (by simp [t1]) (by simp [t44]) (by simp [t45]) (by simp [zaP (show i < 9223372036854775807 by omega)]) hi' rfl (by simp [hn2])⟩
   ·obtain rfl : i = atts.length := by omega
    rw [List.take_length] at y1
    have hyp : ∀ s e, partP X n atts s e ↔ hasP Y s e := fun s e => by
     unfold partP hasP
     rw [y3]
     constructor
     ·rintro (⟨ev, h1, h2, h3⟩ | ⟨h1, h2⟩)
      ·exact ⟨ev, List.mem_append.2 (.inl h1), h2, h3⟩
      ·exact ⟨⟨n, key, u', atts⟩, List.mem_append.2 (.inr (List.mem_singleton.2 rfl)), h1.symm, h2⟩
     ·rintro ⟨ev, h1, h2, h3⟩
      rcases List.mem_append.1 h1 with h1 | h1
      ·exact .inl ⟨ev, h1, h2, h3⟩
      ·simp at h1
       subst h1
       exact .inr ⟨h2.symm, h3⟩
    simp [t0, t1, t44, t45, t46]
    exact ⟨Y, y1.iff hyp, y2, y6, y4, by omega, .inr (.inr ⟨hm, hnew, rfl, u', y3⟩)⟩
end
def restP (X : XI) (n : Nat) (l : List Att) (s : List Nat) (e : Ent) : Prop := hasP X s e ∧ ¬ (e.n = n ∧ (⟨s, e.v⟩ : Att) ∈ l)
def remH (S : AS) (X : XI) (n : Nat) (u : AV) (atts : List Att) (k : Nat) (F' : Fr) (S' : AS) : Prop :=
 ∃ (i : Nat) (Y : XI), IxAt S' Y (restP X n (atts.take i)) ∧ NoEmpty Y ∧ Y.evs = delE X.evs n ∧ Y.x = X.x ∧ Y.k = X.k ∧ Step S S' { X with evs := delE X.evs n } Y ∧
  sl F' 0 = .ptr X.x 0 0 2 ∧ sl F' 1 = .int .u64 (n : Int) ∧ sl F' 31 = u ∧ sl F' 32 = .int .i64 (atts.length : Int) ∧ sl F' 33 = .int .i64 (i : Int) ∧ i ≤ atts.length ∧ k = atts.length - i ∧ F'.n = 74
theorem remH_mk {S : AS} {X : XI} {n : Nat} {u : AV} {atts : List Att} {k : Nat} {F' : Fr} {S' : AS} (i : Nat) (Y : XI) (h1 : IxAt S' Y (restP X n (atts.take i))) (h2 : NoEmpty Y) (h3 : Y.evs = delE X.evs n) (h4 : Y.x = X.x) (h5 : Y.k = X.k) (h6 : Step S S' { X with evs := delE X.evs n } Y)
  (h7 : sl F' 0 = .ptr X.x 0 0 2) (h8 : sl F' 1 = .int .u64 (n : Int)) (h9 : sl F' 31 = u) (h10 : sl F' 32 = .int .i64 (atts.length : Int)) (h11 : sl F' 33 = .int .i64 (i : Int)) (h12 : i ≤ atts.length) (h13 : k = atts.length - i) (h14 : F'.n = 74) : remH S X n u atts k F' S' :=
 ⟨i, Y, h1, h2, h3, h4, h5, h6, h7, h8, h9, h10, h11, h12, h13, h14⟩
theorem nt11 : Tryz.f11.ntmps = 74 := by kernel_rfl
structure Removed (S T : AS) (X X' : XI) (n : Nat) (r : AV) : Prop where
 ix : IxAt T X' (hasP X')
 ne : NoEmpty X'
 step : Step S T X X'
 x : X'.x = X.x
 k : X'.k = X.k
 what : ((∀ e, e ∈ X.evs → e.n ≠ n) ∧ r = .int .i64 6 ∧ X'.evs = X.evs) ∨ ((∃ e, e ∈ X.evs ∧ e.n = n) ∧ r = .int .i64 0 ∧ X'.evs = delE X.evs n)
section
variable {S : AS} {X : XI}
set_option maxRecDepth 20000 in
set_option maxHeartbeats 2000000 in
theorem remove11 {n : Nat} (h : IxAt S X (hasP X)) (hne : NoEmpty X) (hmy : ∀ e, e ∈ X.evs → evMay e.key e.atts = true) (hk : X.k ≤ 1048576) :
  CallW C1 11 [.ptr X.x 0 0 2, .int .u64 (n : Int)] S fun r T => ∃ X', Removed S T X X' n r := by
 have lk := lookup_mp (cx := C1) (t := 70) (k := n) (ok := true) o_mk70 keyNum (h.em.mp h.lme)
 have hx0 := h.x
 have hlx := h.lx
 refine enterW (pu1 _) (pr1 _ rfl) o_fn11 rfl o_ok11 (by simp) fun F hn hs => ?_
 rw [nt11] at hn
 have s0 := hs 0
 have s1 := hs 1
 clear hs
 simp only [List.getElem?_cons_zero, List.getElem?_cons_succ, Option.getD_some] at s0 s1
 rcases h.findE n with ⟨ev, he, hen, hg⟩ | ⟨hg, hnew⟩
 ·rw [hg] at lk
  simp [Ev.v] at lk
  have hat := h.att ev he
  have hcell := hat.sl.cells
  have u1 := hat.sl.sl
  have u2 := hat.sl.len_flat zcA (by omega)
  obtain ⟨hml, hm8⟩ := evMay_l (hmy ev he)
  obtain ⟨A, eA⟩ : ∃ A : AS, A = ⟨(S.h.set S.next (.row [.str [], .nils] 0 0 false 33)).set S.next (.row [.str ev.key, ev.u] 0 0 false 33), S.next + 1⟩ := ⟨_, rfl⟩
  have hA : Sub S A := by rw [eA]; exact sub1s
  have nA : A.next = S.next + 1 := by rw [eA]
  have gA : A.h.get S.next = some (.row [.str ev.key, ev.u] 0 0 false 33) := by rw [eA]; exact gsS _ _ _
  have hIA := h.sub hA
  have xA := hIA.x
  obtain ⟨D, d1, d2, d3, d4⟩ := delete_mpw (cx := C1) (t := 70) (k := n) o_mk70 keyNum hIA.em
  have hD : IxAt D { X with evs := delE X.evs n } (hasP X) := hIA.del (by rw [d4]; exact Nat.le_refl _) (fun id _ h2 => d3 id h2) (by rw [delE_map]; exact d2)
  have gD : D.h.get S.next = some (.row [.str ev.key, ev.u] 0 0 false 33) := by rw [d3 _ (by have := h.lme; omega)]; exact gA
  have hub : ∀ id, bnd ev.u = id + 1 → ¬ XI.wf { X with evs := delE X.evs n } id := by
   rintro id hb (e | e | ⟨m, hm, e⟩)
   ·exact (h.aid ev he).2.1 (by rw [hb, e])
   ·exact (h.aid ev he).2.2.1 (by rw [hb, e])
   ·exact (h.aid ev he).2.2.2 m hm (by rw [hb, e])
  have huD : Sl D ev.u 5 (ev.atts.flatMap encA) := (hat.sl.toSub hA).agree (fun id hb => d3 id (fun e => hub id hb (.inl e))) (by rw [d4]; exact Nat.le_refl _)
  have hSD : Step S D X { X with evs := delE X.evs n } := by
   refine ⟨⟨fun id hid hf => ?_, by rw [d4]; exact hA.next⟩, fun id hf => .inl hf, fun id hf => ?_⟩
   ·rw [d3 id (fun e => hf (.inl e))]; exact hA.h id hid
   ·rcases hf with e | e | e | e | ⟨a, ha, e⟩
    ·exact .inl (.inl e)
    ·exact .inl (.inr (.inl e))
    ·exact .inl (.inr (.inr (.inl e)))
    ·exact .inl (.inr (.inr (.inr (.inl e))))
    ·exact .inl (.inr (.inr (.inr (.inr ⟨a, (delE_sub n X.evs).subset ha, e⟩))))
  have hP0 : ∀ s e, hasP X s e ↔ restP X n (ev.atts.take 0) s e := fun s e => ⟨fun hh => ⟨hh, fun h2 => by simp at h2⟩, fun hh => hh.1⟩
  simp [s0, s1, ex1, none27 h, hx0, lk, hcell, ← eA, xA, delete_b, d1, gD, u1, u2, okW_sl hat.sl, gA]
  refine zaH (remH D X n ev.u ev.atts) ev.atts.length (remH_mk 0 _ (hD.iff hP0) hne rfl rfl rfl Step.refl (by simp [s0]) (by simp [s1]) (by simp) (by simp) (by simp) (Nat.zero_le _) rfl (by simp [hn])) ?_
  clear s0 s1 hn d1
  rintro k F' S' hn' ⟨i, Y, y1, y2, y3, y4, y5, y6, t0, t1, t31, t32, t33, hi, hk', hn2⟩
  clear hn'
  have hS'n : D.next ≤ S'.next := y6.keep.next
  have huS := y6.sl huD hub
  by_cases hi' : i < ev.atts.length
  ·have hx : ev.atts[i]? = some ev.atts[i] := List.getElem?_eq_getElem hi'
   have hlo := zbC (cx := C1) (e := 65) huS zcA (by omega) hx o_ag65 o_sz65
   have hnm : ∀ b, b ∈ ev.atts.take i → b.name ≠ ev.atts[i].name := fun b hb => names_ne hml hx hb
   have htk : ev.atts.take (i + 1) = ev.atts.take i ++ [ev.atts[i]] := List.take_succ_eq_append_getElem hi'
   have hmem : ev.atts[i] ∈ ev.atts := List.getElem_mem hi'
   generalize ev.atts[i] = a at hx hlo hnm htk hmem
   obtain ⟨one, hone⟩ : ∃ one : Ent, one = ⟨a.val, n⟩ := ⟨_, rfl⟩
   have eone : encE one = [.int .i64 a.val.kind, .int .i64 a.val.num, .str a.val.str, .bool a.val.bool, .int .u64 (n : Int)] := by rw [hone]; rfl
   have hPo : restP X n (ev.atts.take i) a.name one := by
    rw [hone]
    exact ⟨⟨ev, he, hen, hmem⟩, fun h2 => hnm _ h2.2 rfl⟩
   obtain ⟨A1, eA1⟩ : ∃ A1 : AS, A1 = ⟨(S'.h.set S'.next (.row [.str [], .int .i64 0, .int .i64 0, .str [], .bool false] 0 0 false 65)).set S'.next (.row (encA a) 0 0 false 65), S'.next + 1⟩ := ⟨_, rfl⟩
   have hA1 : Sub S' A1 := by rw [eA1]; exact sub1s
   have nA1 : A1.next = S'.next + 1 := by rw [eA1]
   have gA1 : A1.h.get S'.next = some (.row (encA a) 0 0 false 65) := by rw [eA1]; exact gsS _ _ _
   have yA := y1.sub hA1
   have xA1 := yA.x
   have lkA := yA.lookup a.name
   obtain ⟨w, B, ⟨rfl, hB⟩, e3⟩ := (up1 (search29 (yA.entSl a.name) (by have := yA.entLen a.name; omega) (yA.entCut a.name one))).ex
   have hSB := hA1.trans hB
   have yB := y1.sub hSB
   have xB := yB.x
   have gB : B.h.get S'.next = some (.row (encA a) 0 0 false 65) := by rw [hB.h _ (by omega)]; exact gA1
   have hBn : S'.next + 1 ≤ B.next := by have := hB.next; omega
   obtain ⟨r, W, V, Z, q1, q2, q3, q3c, q4, q5, z1, z3, z4, z5, z6⟩ := del_step yB y2 a.name one hPo (by omega)
   have hnw : ¬ Y.wf S'.next := fun hf => by have := y1.foot_lt (XI.wf_foot hf); omega
   have gW : W.h.get S'.next = some (.row (encA a) 0 0 false 65) := by rw [q4 _ (by omega) (.inr hnw)]; exact gB
   have xW : W.h.get Y.x = some (.row [.map Y.me, .map Y.mn] 0 0 false 73) := by rw [q4 _ (by have := yB.lx; omega) (.inl rfl)]; exact xB
   have gV : V.h.get S'.next = some (.row (encA a) 0 0 false 65) := by rw [z4.keep.h _ (by omega) hnw]; exact gB
   have xV : V.h.get Y.x = some (.row [.map Y.me, .map Y.mn] 0 0 false 73) := by
    have := z1.x
    rw [z3.x, z3.me, z3.mn] at this
    exact this
   have e34 := fun Q => callW_prim (Q := Q) get34 (pu1 34) q1 q2
   have ecs := (yA.entSl a.name).cells
   have enp := (yA.entSl a.name).np
   have eok := okW_sl (yA.entSl a.name)
   have eokv := (yA.entSl a.name).ok
   have esl := (yA.entSl a.name).sl
   have eln := (yA.entSl a.name).len_flat zaR (by omega)
   have hwk := zaP (i := entK Y a.name one) (by have := (yA.entCut a.name one).le; have := yA.entLen a.name; omega)
   have hPi : ∀ s e, lessP (restP X n (ev.atts.take i)) a.name one s e ↔ restP X n (ev.atts.take (i + 1)) s e := fun s e => by
    unfold lessP restP
    rw [htk, List.mem_append, List.mem_singleton]
    constructor
    ·rintro ⟨⟨h1, h2⟩, h3⟩
     refine ⟨h1, fun h4 => ?_⟩
     rcases h4.2 with h5 | h5
     ·exact h2 ⟨h4.1, h5⟩
     ·refine h3 ⟨by rw [← h5], ?_⟩
      obtain ⟨ev', en⟩ := e
      have h6 : en = n := h4.1
      rw [hone, ← h5, h6]
    ·rintro ⟨h1, h2⟩
     refine ⟨⟨h1, fun h3 => h2 ⟨h3.1, .inl h3.2⟩⟩, fun h3 => h2 ?_⟩
     rw [h3.2, hone, h3.1]
     exact ⟨rfl, .inr rfl⟩
   have fin : ∀ (F2 : Fr) (V' : AS) (Z' : XI), IxAt V' Z' (lessP (restP X n (ev.atts.take i)) a.name one) → NoEmpty Z' → Same Y Z' Y.k → Step B V' Y Z' → sl F2 0 = .ptr X.x 0 0 2 → sl F2 1 = .int .u64 (n : Int) → sl F2 31 = ev.u → sl F2 32 = .int .i64 (ev.atts.length : Int) → sl F2 33 = .int .i64 ((i + 1 : Nat) : Int) → F2.n = 74 →
     ∃ j, j < k ∧ remH D X n ev.u ev.atts j F2 V' := fun F2 V' Z' g1 g2 g3 g4 p0 p1 p31 p32 p33 pn =>
    ⟨ev.atts.length - (i + 1), by omega, remH_mk (i + 1) Z' (g1.iff hPi) g2 (g3.evs.trans y3) (g3.x.trans y4) (g3.k.trans y5) ((y6.trans (Step.of_sub hSB)).trans g4) p0 p1 p31 p32 p33 hi' rfl pn⟩
   rw [y4] at xA1 xB xW xV
   simp only [encA, encV] at hlo eA1 gA1 gB gW gV
   rw [eone] at e3
   simp [t0, t1, t31, t32, t33, hi', u1, u2, hlo, hn2, ← eA1]
   refine still_ok (n := 74) (by kernel_rfl) (by simp [hn2]) ?_
   simp [t0, t1, t31, t32, t33, hn2, xA1, gA1, lkA, eokv, ex1, e3]
   refine draws [.p, .p, .p, .r 0 1, .p, .r 0 1, .p, .p, .p, .p, .e [], .e []] (n := 74) (by kernel_rfl) (by simp [hn2]) ?_
   simp [t0, t1, t31, t32, t33, hn2, xB, xW, gB, gW, eok, ex1, e34, hwk, -Int.natCast_add, q2, q3, q3c, q5, esl, eln]
   have w46 := zaP (show i < 9223372036854775807 by omega)
   by_cases hl1 : (entL Y a.name).length = 1
   ·obtain ⟨U, Z', p1, p2, p3, p4, p5⟩ := z6 hl1
    have hl1' : ((entL Y a.name).length : Int) = 1 := by omega
    simp [hl1']
    refine draws [.p, .p, .p, .r 0 0, .p, .r 0 0, .e []] (n := 74) (by kernel_rfl) (by simp [hn2]) ?_
    simp [t0, t1, t31, t32, t33, hn2, xV, gV, delete_b, p1]
    exact fin _ U Z' p2 p3 p4 p5 (by simp [t0]) (by simp [t1]) (by simp [t31]) (by simp [t32]) (by simp [w46, -Int.natCast_add]) (by simp [hn2])
   ·have hl1' : ¬ ((entL Y a.name).length : Int) = 1 := by omega
    simp [hl1', t33]
    exact fin _ V Z z1 (z5 hl1) z3 z4 (by simp [t0]) (by simp [t1]) (by simp [t31]) (by simp [t32]) (by simp [w46, -Int.natCast_add]) (by simp [hn2])
  ·obtain rfl : i = ev.atts.length := by omega
   rw [List.take_length] at y1
   have hyp : ∀ s e, restP X n ev.atts s e ↔ hasP Y s e := fun s e => by
    unfold restP hasP
    rw [y3]
    have hme := mem_delE (n := n) h.evk
    constructor
    ·rintro ⟨⟨ev', h1, h2, h3⟩, h4⟩
     refine ⟨ev', (hme ev').2 ⟨h1, fun h5 => h4 ⟨h2.symm.trans h5, ?_⟩⟩, h2, h3⟩
     by_cases hq : ev' = ev
     ·rw [← hq]; exact h3
     ·exact absurd (h5.trans hen.symm) (pw_ne h.evk h1 he hq)
    ·rintro ⟨ev', h1, h2, h3⟩
     obtain ⟨h5, h6⟩ := (hme ev').1 h1
     exact ⟨⟨ev', h5, h2, h3⟩, fun h7 => h6 (h2.trans h7.1)⟩
   simp [t0, t1, t31, t32, t33]
   exact ⟨Y, y1.iff hyp, y2, hSD.trans y6, y4, y5, .inr ⟨⟨ev, he, hen⟩, rfl, y3⟩⟩
 ·rw [hg] at lk
  simp at lk
  have hsub3 : Sub S ⟨(S.h.set S.next (.row [.str [], .nils] 0 0 false 33)).set S.next (.row [.str [], .nils] 0 0 false 33), S.next + 1⟩ := sub1s
  simp [s0, s1, ex1, none27 h, hx0, lk]
  exact ⟨X, h.sub hsub3, hne, Step.of_sub hsub3, rfl, rfl, .inl ⟨hnew, rfl, rfl⟩⟩
end
theorem Held.sub {S T : AS} {L : List Ent} {c : Con} {r : AV} (h : Held S L c r) (hs : Sub S T) : Held T L c r := by
 obtain ⟨lo, hi, h1, h2, h3, h4⟩ := h
 exact ⟨lo, hi, h1, h2, h3.toSub hs, h4⟩
def Best (S : AS) (X : XI) (cs : List Con) (b : AV) (B : List Ent) : Prop :=
 Sl S b 5 (B.flatMap encE) ∧ ∃ c, c ∈ cs ∧ B.Sublist (entL X c.name) ∧ ∀ x, x ∈ entL X c.name → holdsB c x.v = true → x ∈ B
theorem Best.of {S : AS} {X : XI} {cs : List Con} {c : Con} {r : AV} (hc : c ∈ cs) (h : Held S (entL X c.name) c r) : ∃ B, Best S X cs r B := by
 obtain ⟨lo, hi, h1, h2, h3, h4⟩ := h
 refine ⟨((entL X c.name).drop lo).take (hi - lo), h3, c, hc, (List.take_sublist _ _).trans (List.drop_sublist _ _), fun x hx hh => ?_⟩
 obtain ⟨i, hi', e⟩ := List.getElem_of_mem hx
 have hx' : (entL X c.name)[i]? = some x := by rw [List.getElem?_eq_getElem hi', e]
 have hin : lo ≤ i ∧ i < hi := by
  by_cases hq : i < lo ∨ hi ≤ i
  ·rw [h4 i x hx' hq] at hh; cases hh
  ·omega
 refine List.mem_iff_getElem?.2 ⟨i - lo, ?_⟩
 rw [List.getElem?_take, if_pos (by omega), List.getElem?_drop, show lo + (i - lo) = i by omega]
 exact hx'
theorem Best.sub {S T : AS} {X : XI} {cs : List Con} {b : AV} {B : List Ent} (h : Best S X cs b B) (hs : Sub S T) : Best T X cs b B := ⟨h.1.toSub hs, h.2⟩
def outN (X : XI) (cs : List Con) (B : List Ent) : List Nat := (B.filter fun x => match X.evs.find? fun e => decide (e.n = x.n) with | some e => matchB cs e.atts | none => false).map Ent.n
theorem find_ev {X : XI} {S : AS} {P : List Nat → Ent → Prop} (h : IxAt S X P) {e : Ev} (he : e ∈ X.evs) : X.evs.find? (fun a => decide (a.n = e.n)) = some e := by
 cases hf : X.evs.find? fun a => decide (a.n = e.n) with
 | none =>
  have := List.find?_eq_none.1 hf e he
  simp at this
 | some a =>
  have h1 := List.find?_some hf
  have h2 := List.mem_of_find?_eq_some hf
  by_cases hq : a = e
  ·rw [hq]
  ·exact absurd (by simpa using h1) (pw_ne h.evk h2 he hq)
theorem getA_mem {l : List Att} {s : List Nat} {v : Val} (h : getA l s = some v) : (⟨s, v⟩ : Att) ∈ l := by
 unfold getA at h
 cases hf : l.find? fun a => eqS a.name s with
 | none => rw [hf] at h; cases h
 | some a =>
  rw [hf] at h
  simp at h
  have h1 := List.find?_some hf
  rw [eqS_eq] at h1
  have h2 := List.mem_of_find?_eq_some hf
  have : (⟨s, v⟩ : Att) = a := by
   rw [← h, ← (of_decide_eq_true h1)]
  rw [this]; exact h2
theorem match_all {cs : List Con} {l : List Att} (h : matchB cs l = true) {c : Con} (hc : c ∈ cs) : ∃ v, getA l c.name = some v ∧ holdsB c v = true := by
 unfold matchB at h
 rw [Bool.not_eq_true', List.any_eq_false] at h
 have h1 := h c hc
 unfold failB at h1
 cases hg : getA l c.name with
 | none => rw [hg] at h1; simp at h1
 | some v => rw [hg] at h1; exact ⟨v, rfl, by simpa using h1⟩
theorem nodup_map {α β : Type} {f : α → β} : ∀ {l : List α}, (∀ x y, x ∈ l → y ∈ l → f x = f y → x = y) → l.Nodup → (l.map f).Nodup
 | [], _, _ => List.Pairwise.nil
 | a :: l, h, hn => by
  obtain ⟨h1, h2⟩ := List.pairwise_cons.1 hn
  refine List.pairwise_cons.2 ⟨fun b hb e => ?_, nodup_map (fun x y hx hy => h x y (List.mem_cons_of_mem _ hx) (List.mem_cons_of_mem _ hy)) h2⟩
  obtain ⟨x, hx, rfl⟩ := List.mem_map.1 hb
  exact h1 x hx (h a x (List.mem_cons_self ..) (List.mem_cons_of_mem _ hx) e)
theorem out_ok {X : XI} {S : AS} (h : IxAt S X (hasP X)) (hmy : ∀ e, e ∈ X.evs → evMay e.key e.atts = true) {cs : List Con} {b : AV} {B : List Ent} (hb : Best S X cs b B) :
  (outN X cs B).Nodup ∧ ∀ n, n ∈ outN X cs B ↔ ∃ e, e ∈ X.evs ∧ e.n = n ∧ matchB cs e.atts = true := by
 obtain ⟨_, c, hc, hsub, hall⟩ := hb
 have hent : ∀ x, x ∈ B → ∃ e, e ∈ X.evs ∧ e.n = x.n ∧ (⟨c.name, x.v⟩ : Att) ∈ e.atts := fun x hx => (h.entM c.name x).1 (hsub.subset hx)
 have hinj : ∀ x y, x ∈ B → y ∈ B → x.n = y.n → x = y := fun x y hx hy hxy => by
  obtain ⟨e, h1, h2, h3⟩ := hent x hx
  obtain ⟨e', h4, h5, h6⟩ := hent y hy
  have hee : e = e' := Classical.byContradiction fun hq => pw_ne h.evk h1 h4 hq (by rw [h2, h5, hxy])
  subst hee
  have hml := (evMay_l (hmy e h1)).1
  have hv : (⟨c.name, x.v⟩ : Att) = ⟨c.name, y.v⟩ := Classical.byContradiction fun hq => by
   have hr := names_rise hml
   have : e.atts.Pairwise fun a b => a.name ≠ b.name := hr.imp fun {a b} hab e0 => by rw [e0, ltS_irr] at hab; cases hab
   exact pw_ne this h3 h6 hq rfl
  obtain ⟨xv, xn⟩ := x
  obtain ⟨yv, yn⟩ := y
  simp only [Att.mk.injEq, true_and] at hv
  simp only at hxy
  rw [hv, hxy]
 have hnd : B.Nodup := (h.entR c.name).sublist hsub |>.imp fun {a b} hab e0 => by
  rw [e0] at hab
  have := ordE_ord.self b; omega
 refine ⟨?_, fun n => ?_⟩
 ·unfold outN
  refine nodup_map ?_ (hnd.sublist List.filter_sublist)
  intro x y hx hy hxy
  exact hinj x y (List.mem_filter.1 hx).1 (List.mem_filter.1 hy).1 hxy
 ·unfold outN
  rw [List.mem_map]
  constructor
  ·rintro ⟨x, hx, rfl⟩
   obtain ⟨hx1, hx2⟩ := List.mem_filter.1 hx
   obtain ⟨e, h1, h2, h3⟩ := hent x hx1
   rw [← h2, find_ev h h1] at hx2
   exact ⟨e, h1, h2, hx2⟩
  ·rintro ⟨e, h1, h2, h3⟩
   obtain ⟨v, h4, h5⟩ := match_all h3 hc
   have hx : (⟨v, n⟩ : Ent) ∈ entL X c.name := (h.entM c.name ⟨v, n⟩).2 ⟨e, h1, h2, getA_mem h4⟩
   refine ⟨⟨v, n⟩, List.mem_filter.2 ⟨hall _ hx h5, ?_⟩, rfl⟩
   show (match X.evs.find? fun e => decide (e.n = n) with | some e => matchB cs e.atts | none => false) = true
   rw [← h2, find_ev h h1]
   exact h3
theorem outN_snoc (X : XI) (cs : List Con) (B : List Ent) (x : Ent) : outN X cs (B ++ [x]) = outN X cs B ++ outN X cs [x] := by
 unfold outN
 rw [List.filter_append, List.map_append]
theorem own_num {S : AS} {lo : Nat} {v : AV} {l : List Nat} (h : Own S lo v 1 30 (numL l)) : NumAt S v l.toArray := by
 refine ⟨by simpa using h.gw, fun id cells low top frz ty hb hr => ?_⟩
 rcases h with ⟨rfl, _⟩ | ⟨id', g, low', n, rfl, h1, h2, h3, h4, h5⟩
 ·simp [bnd] at hb
 ·have : id' = id := by simpa [bnd] using hb
  subst this
  rw [h3] at hr
  cases hr
  rw [numL_len]; simp
def q1H (S : AS) (X : XI) (p u : AV) (cs : List Con) (k : Nat) (F' : Fr) (S' : AS) : Prop :=
 ∃ (i : Nat) (b : AV) (B : List Ent), Sub S S' ∧ Best S' X cs b B ∧ sl F' 0 = .ptr X.x 0 0 2 ∧ sl F' 1 = p ∧ sl F' 6 = .nils ∧ sl F' 7 = b ∧ sl F' 39 = u ∧ sl F' 40 = .int .i64 ((cs.length - 1 : Nat) : Int) ∧ sl F' 41 = .int .i64 (i : Int) ∧ i ≤ cs.length - 1 ∧ k = cs.length - 1 - i ∧ F'.n = 85
theorem q1H_mk {S : AS} {X : XI} {p u : AV} {cs : List Con} {k : Nat} {F' : Fr} {S' : AS} (i : Nat) (b : AV) (B : List Ent) (h1 : Sub S S') (h2 : Best S' X cs b B) (h3 : sl F' 0 = .ptr X.x 0 0 2) (h4 : sl F' 1 = p) (h5 : sl F' 6 = .nils) (h6 : sl F' 7 = b) (h7 : sl F' 39 = u) (h8 : sl F' 40 = .int .i64 ((cs.length - 1 : Nat) : Int))
  (h9 : sl F' 41 = .int .i64 (i : Int)) (h10 : i ≤ cs.length - 1) (h11 : k = cs.length - 1 - i) (h12 : F'.n = 85) : q1H S X p u cs k F' S' := ⟨i, b, B, h1, h2, h3, h4, h5, h6, h7, h8, h9, h10, h11, h12⟩
def q2H (S : AS) (X : XI) (p b : AV) (cs : List Con) (B : List Ent) (k : Nat) (F' : Fr) (S' : AS) : Prop :=
 ∃ (i : Nat) (v : AV), Sub S S' ∧ Own S' S.next v 1 30 (numL (outN X cs (B.take i))) ∧ sl F' 0 = .ptr X.x 0 0 2 ∧ sl F' 1 = p ∧ sl F' 6 = v ∧ sl F' 61 = b ∧ sl F' 62 = .int .i64 (B.length : Int) ∧ sl F' 63 = .int .i64 (i : Int) ∧ i ≤ B.length ∧ k = B.length - i ∧ F'.n = 85
theorem q2H_mk {S : AS} {X : XI} {p b : AV} {cs : List Con} {B : List Ent} {k : Nat} {F' : Fr} {S' : AS} (i : Nat) (v : AV) (h1 : Sub S S') (h2 : Own S' S.next v 1 30 (numL (outN X cs (B.take i)))) (h3 : sl F' 0 = .ptr X.x 0 0 2) (h4 : sl F' 1 = p) (h5 : sl F' 6 = v) (h6 : sl F' 61 = b) (h7 : sl F' 62 = .int .i64 (B.length : Int))
  (h9 : sl F' 63 = .int .i64 (i : Int)) (h10 : i ≤ B.length) (h11 : k = B.length - i) (h12 : F'.n = 85) : q2H S X p b cs B k F' S' := ⟨i, v, h1, h2, h3, h4, h5, h6, h7, h9, h10, h11, h12⟩
theorem nt12 : Tryz.f12.ntmps = 85 := by kernel_rfl
def Told (T : AS) (X : XI) (cs : List Con) (r : AV) : Prop :=
 (mayP cs = false ∧ r = .tuple [.nils, .int .i64 30]) ∨ (mayP cs = true ∧ ∃ v l, r = .tuple [v, .int .i64 0] ∧ Sl T v 1 (numL l) ∧ l.Pairwise (· < ·) ∧ l.length ≤ X.k ∧ ∀ n, n ∈ l ↔ ∃ e, e ∈ X.evs ∧ e.n = n ∧ matchB cs e.atts = true)
theorem mayP_con {cs : List Con} (h : mayP cs = true) : cs.length ≤ 6 ∧ ∀ c, c ∈ cs → mayC c = true := by
 unfold mayP at h
 simp only [Bool.and_eq_true, decide_eq_true_eq] at h
 refine ⟨h.1, fun c hc => ?_⟩
 have h3 := h.2
 rw [Bool.not_eq_true', List.any_eq_false] at h3
 have := h3 c hc
 simpa using this
section
variable {S : AS} {X : XI}
set_option maxRecDepth 20000 in
set_option maxHeartbeats 4000000 in
theorem query12 {p : AV} {cs : List Con} (h : IxAt S X (hasP X)) (hmy : ∀ e, e ∈ X.evs → evMay e.key e.atts = true) (hp : PredAt S p cs) (hk : X.k ≤ 1048576) :
  CallW C1 12 [.ptr X.x 0 0 2, p] S fun r T => Sub S T ∧ Told T X cs r := by
 obtain ⟨r1, T1, ⟨rfl, hT1⟩, e1⟩ := (up1 (mayPred hp)).ex
 have u1 := hp.sl.sl
 have u2 := hp.sl.len_flat zbF (by omega)
 have h1 := h.sub hT1
 have x1 := h1.x
 have hp1 := hp.sub hT1
 refine enterW (pu1 _) (pr1 _ rfl) o_fn12 rfl o_ok12 (by simp) fun F hn hs => ?_
 rw [nt12] at hn
 have s0 := hs 0
 have s1 := hs 1
 clear hs
 simp only [List.getElem?_cons_zero, List.getElem?_cons_succ, Option.getD_some] at s0 s1
 cases hm : mayP cs with
 | false =>
  rw [hm] at e1
  simp [s0, s1, ex1, none27 h, e1]
  exact ⟨hT1, .inl ⟨hm, rfl⟩⟩
 | true =>
  rw [hm] at e1
  obtain ⟨hc6, hcm⟩ := mayP_con hm
  by_cases hz : cs.length = 0
  ·have hz' : (cs.length : Int) = 0 := by omega
   obtain ⟨v, T2, ⟨g1, g2⟩, e2⟩ := (numbers17 h1 hk).ex
   simp [s0, s1, ex1, none27 h, e1, u1, u2, hz', e2, g1.np, g1.cells]
   refine ⟨hT1.trans g2, .inr ⟨hm, v, numsOf X, rfl, g1, numsOf_lt h1, ?_, fun n => ?_⟩⟩
   ·unfold numsOf
    rw [List.length_mergeSort, List.length_map]; exact h.evl
   ·rw [numsOf_mem]
    have hcs : cs = [] := List.length_eq_zero_iff.1 hz
    have hmt : ∀ l, matchB cs l = true := fun l => by rw [hcs]; rfl
    exact ⟨fun ⟨e, q1, q2⟩ => ⟨e, q1, q2, hmt _⟩, fun ⟨e, q1, q2, _⟩ => ⟨e, q1, q2⟩⟩
  ·have hz' : ¬ (cs.length : Int) = 0 := by omega
   have h0 : 0 < cs.length := by omega
   have hcne : cs ≠ [] := fun e => hz (by rw [e]; rfl)
   obtain ⟨c, hx0⟩ : ∃ c, cs[0]? = some c := ⟨cs[0], List.getElem?_eq_getElem h0⟩
   have hcin : c ∈ cs := List.mem_of_getElem? hx0
   have lo0 := zbC (cx := C1) (e := 54) hp1.sl zbF (by omega) hx0 o_ag54 o_sz54
   have ln0 := loadT_elf (cx := C1) (e := 9) (o := 0) (y := .str c.name) hp1.sl zbF (by omega) hx0 rfl o_ag9
   have lk0 := h1.lookup c.name
   obtain ⟨b0, T2, ⟨hT2, hb0⟩, e2⟩ := (up1 (hold35 (h1.entSl c.name) (hp1.con c hcin) (h1.entR c.name) (by have := h1.entLen c.name; omega) (hcm c hcin))).ex
   obtain ⟨B0, hB0⟩ := Best.of hcin hb0
   have hpp := isP_pAt (k := 0) u1 (by rw [u2]; exact h0)
   have ecs := (h1.entSl c.name).cells
   have eok := okW_sl (h1.entSl c.name)
   have ecb := hB0.1.cells
   have enb := hB0.1.np
   have eokb := okW_sl hB0.1
   have hsl39 : ∀ F : Fr, sliceV C1 F 25 p (some (.const (.int .i64 1))) none none = some (subA p 1 cs.length) := fun F =>
    zbA o_st25 u1 (by rw [zaB]; exact natOf_one) (by rw [zaU, u2]) (by omega) (by rw [u2]; exact Nat.le_refl _)
   have hsu := hp.sl.cut (l := 1) (k := cs.length) (by omega) (by rw [u2]; exact Nat.le_refl _)
   rw [fm_drop zbF, fm_take zbF] at hsu
   have husl := hsu.sl
   have huln := subA_len hp.sl (l := 1) (k := cs.length) (by omega) (by rw [u2]; exact Nat.le_refl _)
   simp only [encC] at lo0 e2
   simp [s0, s1, ex1, none27 h, e1, u1, u2, hz', hcne, hn]
   refine draws [.p, .p, .p, .r 0 0, .p, .p, .p, .r 0 0, .r 0 0, .p, .p, .r 0 0, .e [], .p] (n := 85) (by kernel_rfl) (by simp [hn]) ?_
   simp [s0, s1, ex1, u1, u2, h0, hn, x1, fieldP_add hpp, lo0, ln0, lk0, e2, ecs, eok, okW_sl hp.sl, ecb, enb, eokb, hsl39, husl, huln]
   refine zaH (q1H S X p (subA p 1 cs.length) cs) (cs.length - 1) (q1H_mk 0 b0 B0 (hT1.trans hT2) hB0 (by simp [s0]) (by simp [s1]) (by simp) (by simp) (by simp) (by simp) (by simp) (Nat.zero_le _) rfl (by simp [hn])) ?_
   clear s0 s1 hn e1 e2
   rintro k F' S' hn' ⟨i, b, B, q1, q2, t0, t1, t6, t7, t39, t40, t41, hi, hk', hn2⟩
   clear hn'
   have hx := (h.sub q1)
   have hxx := hx.x
   have sb := q2.1.sl
   have lb := q2.1.len_flat zaR (by omega)
   by_cases hi' : i < cs.length - 1
   ·obtain ⟨c1, hc1⟩ : ∃ c1, cs[i + 1]? = some c1 := ⟨cs[i + 1], List.getElem?_eq_getElem (by omega)⟩
    have hc1in : c1 ∈ cs := List.mem_of_getElem? hc1
    have hel : ((cs.drop 1).take (cs.length - 1))[i]? = some c1 := by
     rw [List.getElem?_take, if_pos hi', List.getElem?_drop, Nat.add_comm]; exact hc1
    have hlo := zbC (cx := C1) (e := 54) (hsu.toSub q1) zbF (by omega) hel o_ag54 o_sz54
    obtain ⟨A, eA⟩ : ∃ A : AS, A = ⟨(S'.h.set S'.next (.row [.str [], .int .i64 0, .int .i64 0, .int .i64 0, .str [], .bool false, .nils] 0 0 false 54)).set S'.next (.row (encC c1) 0 0 false 54), S'.next + 1⟩ := ⟨_, rfl⟩
    have hA : Sub S' A := by rw [eA]; exact sub1s
    have gA : A.h.get S'.next = some (.row (encC c1) 0 0 false 54) := by rw [eA]; exact gsS _ _ _
    have hIA := hx.sub hA
    have xA := hIA.x
    have lkA := hIA.lookup c1.name
    obtain ⟨b1, T, ⟨hT, hb1⟩, e3⟩ := (up1 (hold35 (hIA.entSl c1.name) ((hp.con c1 hc1in).sub (q1.trans hA)) (hIA.entR c1.name) (by have := hIA.entLen c1.name; omega) (hcm c1 hc1in))).ex
    obtain ⟨B1, hB1⟩ := Best.of hc1in hb1
    have eok1 := okW_sl (hIA.entSl c1.name)
    have ec1 := hB1.1.cells
    have en1 := hB1.1.np
    have eokb1 := okW_sl hB1.1
    have sb1 := hB1.1.sl
    have lb1 := hB1.1.len_flat zaR (by omega)
    have hs' := (hp.con c1 hc1in).sl.cells
    have w41 := zaP (show i < 9223372036854775807 by omega)
    simp only [encC] at hlo eA gA e3
    simp [t0, t1, t6, t7, t39, t40, t41, hi', husl, huln, hlo, hn2, ← eA, hs']
    refine draws [.p, .p, .p, .r 0 0, .p, .r 0 0, .r 0 0, .r 0 0, .e [], .p] (n := 85) (by kernel_rfl) (by simp [hn2]) ?_
    simp [t0, t1, t6, t7, t39, t40, t41, hn2, xA, gA, lkA, eok1, ex1, e3, ec1, en1, eokb1, sb, lb, sb1, lb1]
    by_cases hlt : B1.length < B.length
    ·simp [hlt, t41]
     exact ⟨cs.length - 1 - (i + 1), by omega, q1H_mk (i + 1) b1 B1 ((q1.trans hA).trans hT) hB1 (by simp [t0]) (by simp [t1]) (by simp [t6]) (by simp) (by simp [t39]) (by simp [t40]) (by simp [w41, -Int.natCast_add]) hi' rfl (by simp [hn2])⟩
    ·simp [hlt, t41]
     exact ⟨cs.length - 1 - (i + 1), by omega, q1H_mk (i + 1) b B ((q1.trans hA).trans hT) (q2.sub (hA.trans hT)) (by simp [t0]) (by simp [t1]) (by simp [t6]) (by simp [t7]) (by simp [t39]) (by simp [t40]) (by simp [w41, -Int.natCast_add]) hi' rfl (by simp [hn2])⟩
   ·obtain rfl : i = cs.length - 1 := by omega
    simp [t0, t1, t6, t7, t39, t40, t41, sb, lb]
    obtain ⟨ok1, ok2⟩ := out_ok hx hmy q2
    obtain ⟨c2, hc2, hsubB, _⟩ := q2.2
    have hBk : B.length ≤ X.k := Nat.le_trans hsubB.length_le (hx.entLen c2.name)
    have hlB : ∀ i, (outN X cs (B.take i)).length ≤ B.length := fun i => by
     unfold outN
     rw [List.length_map]
     exact Nat.le_trans (List.length_filter_le _ _) (by rw [List.length_take]; omega)
    have ob := okW_sl q2.1
    refine zaH (q2H S' X p b cs B) B.length (q2H_mk 0 .nils (Sub.refl S') Own.nil (by simp [t0]) (by simp [t1]) (by simp [t6]) (by simp [t7]) (by simp) (by simp) (Nat.zero_le _) rfl (by simp [hn2])) ?_
    clear t0 t1 t6 t7 t39 t40 t41 hn2
    rintro k2 F2 V hn' ⟨j, v, p1, p2, t0, t1, t6, t61, t62, t63, hj, hk2, hn2⟩
    clear hn'
    have hSV := q1.trans p1
    have hV := h.sub hSV
    have hb := q2.sub p1
    by_cases hj' : j < B.length
    ·have hxj : B[j]? = some B[j] := List.getElem?_eq_getElem hj'
     have hlo := zbC (cx := C1) (e := 80) hb.1 zaR (by omega) hxj o_ag80 o_sz80
     have htk : B.take (j + 1) = B.take j ++ [B[j]] := List.take_succ_eq_append_getElem hj'
     have hmem : B[j] ∈ B := List.getElem_mem hj'
     generalize B[j] = x at hxj hlo htk hmem
     obtain ⟨ev, he, hen, _⟩ := (hV.entM c2.name x).1 (hsubB.subset hmem)
     obtain ⟨A, eA⟩ : ∃ A : AS, A = ⟨(V.h.set V.next (.row [.int .i64 0, .int .i64 0, .str [], .bool false, .int .u64 0] 0 0 false 80)).set V.next (.row (encE x) 0 0 false 80), V.next + 1⟩ := ⟨_, rfl⟩
     have hA : Sub V A := by rw [eA]; exact sub1s
     have nA : A.next = V.next + 1 := by rw [eA]
     have gA : A.h.get V.next = some (.row (encE x) 0 0 false 80) := by rw [eA]; exact gsS _ _ _
     have hIA := hV.sub hA
     have xA := hIA.x
     have lkA : lookupV C1 A 70 (.map X.me) (.int .u64 (x.n : Int)) false = some (.agg [.str ev.key, ev.u]) := by
      rw [lookup_mp (cx := C1) (t := 70) (k := x.n) (ok := false) o_mk70 keyNum (hIA.em.mp hIA.lme), mget_ev, ← hen, find_ev hIA he]
      rfl
     have hat := hIA.att ev he
     obtain ⟨w, T, ⟨rfl, hT⟩, e3⟩ := (up1 (matches_ (key := ev.key) (hp.sub (hSV.trans hA)) hat)).ex
     have hVT := hA.trans hT
     have gT : T.h.get V.next = some (.row (encE x) 0 0 false 80) := by rw [hT.h _ (by omega)]; exact gA
     have hTn : V.next + 1 ≤ T.next := by have := hT.next; omega
     have ecu := hat.sl.cells
     have w63 := zaP (show j < 9223372036854775807 by omega)
     have opw := okW_sl hp.sl
     have hout : outN X cs [x] = if matchB cs ev.atts = true then [x.n] else [] := by
      have hfind : X.evs.find? (fun e => decide (e.n = x.n)) = some ev := by rw [← hen]; exact find_ev hV he
      unfold outN
      cases hmb : matchB cs ev.atts <;> simp [hfind, hmb]
     have hown := p2.sub hVT
     simp only [encE, encV, List.cons_append, List.nil_append] at hlo eA gA gT
     simp [t0, t1, t6, t61, t62, t63, hj', sb, lb, hlo, hn2, ← eA]
     refine draws [.p, .p, .p, .p, .r 0 0, .p, .r 0 0, .r 0 0, .e []] (n := 85) (by kernel_rfl) (by simp [hn2]) ?_
     cases hmb : matchB cs ev.atts with
     | true =>
      rw [hmb] at e3 hout
      simp only [if_true] at hout
      obtain ⟨v', U, a1, a2, a3, a4, _⟩ := append_one (cx := C1) (t := 38) (u := 38) (ts := []) (p := (30, 1, 8)) (y := .int .u64 (x.n : Int)) o_st38 rfl o_un38 rfl hown (Nat.le_trans p1.next hVT.next) (by
       rw [numL_len]
       unfold fits
       have h1 := hlB j
       simp only [nble, Bool.and_eq_true, decide_eq_true_eq]
       have : ((outN X cs (B.take j)).length + 1).mul 8 = ((outN X cs (B.take j)).length + 1) * 8 := rfl
       constructor <;> omega)
      simp [t0, t1, t6, t61, t62, t63, hn2, xA, gA, lkA, ex1, e3, gT, ecu, opw, hown.sl.cells, a1]
      have hSU : Sub S' U := ⟨fun id hid => (a3.h id hid).trans ((p1.trans hVT).h id hid), Nat.le_trans (p1.trans hVT).next a3.next⟩
      refine ⟨B.length - (j + 1), by omega, q2H_mk (j + 1) v' hSU ?_ (by simp [t0]) (by simp [t1]) (by simp) (by simp [t61]) (by simp [t62]) (by simp [w63, -Int.natCast_add]) hj' rfl (by simp [hn2])⟩
      rw [htk, outN_snoc, hout]
      have : numL (outN X cs (B.take j) ++ [x.n]) = numL (outN X cs (B.take j)) ++ [.int .u64 (x.n : Int)] := by simp [numL]
      rw [this]; exact a2
     | false =>
      rw [hmb] at e3 hout
      simp only [Bool.false_eq_true, if_false] at hout
      simp [t0, t1, t6, t61, t62, t63, hn2, xA, gA, lkA, ex1, e3, gT, ecu, opw]
      exact ⟨B.length - (j + 1), by omega, q2H_mk (j + 1) v (p1.trans hVT) (by rw [htk, outN_snoc, hout, List.append_nil]; exact hown) (by simp [t0]) (by simp [t1]) (by simp [t6]) (by simp [t61]) (by simp [t62]) (by simp [w63, -Int.natCast_add]) hj' rfl (by simp [hn2])⟩
    ·obtain rfl : j = B.length := by omega
     rw [List.take_length] at p2
     obtain ⟨w, U, ⟨rfl, d', d1, d2, d3, d4⟩, e3⟩ := (up1 (sort_sort (own_num p2) (by have := hlB B.length; rw [List.take_length] at this; simp; omega))).ex
     have hs1 := p2.sl.cells
     have hs2 := p2.sl.np
     simp [t0, t1, t6, t61, t62, t63, ex1, e3, hs1, hs2]
     have hpm := perm_of d1
     simp only [List.toList_toArray] at hpm
     have hsz : d'.size = (outN X cs B).toArray.size := d1.1
     have hnd : d'.toList.Nodup := hpm.nodup_iff.2 ok1
     have hso := sorted_of (d := d') (by rw [hsz]; exact d2)
     refine ⟨⟨fun id hid => ?_, Nat.le_trans hSV.next d4.next⟩, .inr ⟨hm, v, d'.toList, rfl, d3.gw.1, (hso.and hnd).imp (fun ⟨a, b⟩ => by omega), ?_, fun n => ?_⟩⟩
     ·rw [d4.h id (by have := hSV.next; omega) (fun hb => by
       rcases p2.above with h1 | h1
       ·omega
       ·have := q1.next; omega)]
      exact hSV.h id hid
     ·rw [hpm.length_eq]
      have := hlB B.length
      rw [List.take_length] at this
      omega
     ·rw [hpm.mem_iff]; exact ok2 n
end
end Go.Proofs.YtfempihpphbgmaaGreat.idx
end
