/-
  Maps by numbers and by names, of which the order of being born is known; the context in which the index is called.
-/
import Derived.Test.YtfempihpphbgmaaGreatPartC
noncomputable section
namespace Go.Proofs.YtfempihpphbgmaaGreat.idx
open Go Go.Am Go.Proofs.YtfempihpphbgmaaGreat.mod
set_option linter.unusedVariables false
set_option linter.unusedSimpArgs false
abbrev A1 : Am.Ask := { eqs := [50, 65], exts := [(132, .iS)], aV := [(14, iI true), (31, ins.q31), (34, ins.q34), (46, q46), (52, q52)] }
abbrev C1 : Am.Cx := Am.iF Tryz.prog A1
theorem ple1 : uP C0.aV C1.aV := by
 have e0 : C0.aV = ((((T.leaf.set 14 (iI true)).set 31 hole).set 34 hole).set 46 hole).set 52 hole := rfl;have e1 : C1.aV = ((((T.leaf.set 14 (iI true)).set 31 ins.q31).set 34 ins.q34).set 46 q46).set 52 q52 := rfl;rw [e0, e1];exact ((((uP.refl _).hole 31 _).hole 34 _).hole 46 _).hole 52 _
theorem D2 {f : FuncId} {vs : List AV} {S : AS} {Q : AV → AS → Prop} (h : ai C0 f vs S Q) : ai C1 f vs S Q :=
 ai.to (P := Tryz.prog) (A := A0) (A' := A1) rfl rfl rfl rfl ple1 h
theorem nS (f : Nat) (h : (f == 132) = false) : C1.exts.get f = none := by
 have h1 : ¬ f = 132 := by simpa using h
 show ((T.leaf : T Xf).set 132 .iS).get f = none;rw [ae _ _ h1]; exact da f
theorem pr1 (f : Nat) (h : (f == 14 || f == 31 || f == 34 || f == 46 || f == 52) = false) : C1.aV.get f = none := by
 simp only [Bool.or_eq_false_iff, beq_eq_false_iff_ne] at h;show ((((((T.leaf : T (List AV → AS → Option (AV × AS))).set 14 (iI true)).set 31 ins.q31).set 34 ins.q34).set 46 q46).set 52 q52).get f = none;rw [ae _ _ h.2, ae _ _ h.1.2, ae _ _ h.1.1.2, ae _ _ h.1.1.1.2, ae _ _ h.1.1.1.1]; exact da f
theorem EI (f : Nat) : C1.eh.get f = none := da f
theorem get31 : C1.aV.get 31 = some ins.q31 := by
 show ((((((T.leaf : T (List AV → AS → Option (AV × AS))).set 14 (iI true)).set 31 ins.q31).set 34 ins.q34).set 46 q46).set 52 q52).get 31 = _;rw [ae _ _ (by decide), ae _ _ (by decide), ae _ _ (by decide)]; exact aa _ _ _
theorem get34 : C1.aV.get 34 = some ins.q34 := by
 show ((((((T.leaf : T (List AV → AS → Option (AV × AS))).set 14 (iI true)).set 31 ins.q31).set 34 ins.q34).set 46 q46).set 52 q52).get 34 = _;rw [ae _ _ (by decide), ae _ _ (by decide)]; exact aa _ _ _
theorem get46 : C1.aV.get 46 = some q46 := by
 show ((((((T.leaf : T (List AV → AS → Option (AV × AS))).set 14 (iI true)).set 31 ins.q31).set 34 ins.q34).set 46 q46).set 52 q52).get 46 = _;rw [ae _ _ (by decide)]; exact aa _ _ _
theorem get52 : C1.aV.get 52 = some q52 := by
 show ((((((T.leaf : T (List AV → AS → Option (AV × AS))).set 14 (iI true)).set 31 ins.q31).set 34 ins.q34).set 46 q46).set 52 q52).get 52 = _;exact aa _ _ _
theorem get14 : C1.aV.get 14 = some (iI true) := by
 show ((((((T.leaf : T (List AV → AS → Option (AV × AS))).set 14 (iI true)).set 31 ins.q31).set 34 ins.q34).set 46 q46).set 52 q52).get 14 = _;rw [ae _ _ (by decide), ae _ _ (by decide), ae _ _ (by decide), ae _ _ (by decide)]; exact aa _ _ _
theorem awake14 {S : AS} {Q : AV → AS → Prop} : ai C1 14 [] S Q = Q (.bool true) S := iU (q := iI true) get14 rfl rfl rfl
theorem pR : KeyE .string (fun s : List Nat => AV.str s) :=
 ⟨fun a b => by
  show some (fX a b) = _;rw [fy], fun _ => rfl⟩
theorem vI : KeyE (.int .u64) (fun n : Nat => AV.int .u64 (n : Int)) :=
 ⟨fun a b => by
  show cond (iO .u64 .u64) (some (C2 (a : Int) (b : Int))) none = _;rw [lE, cond_true, gC];have e : ((a : Int) = (b : Int)) ↔ a = b := by omega
  simp [e], fun _ => rfl⟩
def sd {κ : Type} [DecidableEq κ] : List (κ × AV) → κ → List (κ × AV)
 | [], _ => []
 | (a, w) :: m, k => if k = a then m else (a, w) :: sd m k
def DH {κ : Type} (S : AS) (id : Nat) (enc : κ → AV) (m : List (κ × AV)) : Prop :=
 ∃ es clock, S.h.get id = some (.map es clock) ∧ es.map (fun e => (e.key, e.val)) = m.map (fun p => (enc p.1, p.2)) ∧ mW es clock
theorem DH.mp {κ : Type} {enc : κ → AV} {m : List (κ × AV)} {S : AS} {id : Nat} (h : DH S id enc m) (hl : id < S.next) : Mp S (.map id) enc m := by
 obtain ⟨es, clock, h1, h2, _⟩ := h;exact ⟨id, es, clock, rfl, hl, h1, h2⟩
theorem DH.bR {κ : Type} {enc : κ → AV} {m : List (κ × AV)} {S : AS} {id : Nat} {T : AS} (h : DH S id enc m) (hs : T.h.get id = S.h.get id) : DH T id enc m := by
 obtain ⟨es, clock, h1, h2, h3⟩ := h;exact ⟨es, clock, hs.trans h1, h2, h3⟩
theorem BK {es : List aX} : ∀ (j : Nat) (k v : AV) (e : aX), es[j]? = some e → (l5 j es ⟨k, v, e.born⟩).map aX.born = es.map aX.born := by
 induction es with
 | nil => intro j k v e h; simp at h
 | cons z es ih =>
  intro j k v e h
  cases j with
  | zero =>
   simp at h; subst h;show List.map aX.born ((⟨k, v, z.born⟩ : aX) :: es) = _
   rfl
  | succ j =>
   show List.map aX.born (z :: l5 j es ⟨k, v, e.born⟩) = _;simp only [List.map_cons, List.cons.injEq, true_and];exact ih j k v e (by simpa using h)
theorem E2 {es sL : List aX} {clock : Nat} (h : sL.map aX.born = es.map aX.born) (hw : mW es clock) : mW sL clock := by
 have e1 : ∀ (l : List aX), mW l clock ↔ (∀ b, b ∈ l.map aX.born → b < clock) ∧ (l.map aX.born).Pairwise (· ≠ ·) := fun l => by
  unfold mW;rw [List.pairwise_map];simp
 rw [e1] at hw ⊢;rw [h]; exact hw
theorem CX {d : TypeDesc} {k : AV} : ∀ (es : List aX) (i j : Nat) (e : aX), ea d k es i = some (some (i + j, e)) → es[j]? = some e
 | [], i, j, e, h => by cases h
 | z :: es, i, j, e, h => by
  have u : ea d k (z :: es) i = (match kZ d k z.key with | some true => some (some (i, z)) | some false => ea d k es (Nat.succ i) | none => none) := rfl
  rw [u] at h
  cases hs : kZ d k z.key with
  | none => rw [hs] at h; cases h
  | some b =>
   cases b with
   | true =>
    rw [hs] at h;simp only [Option.some.injEq, Prod.mk.injEq] at h;obtain ⟨h1, rfl⟩ := h;have : j = 0 := by omega
    subst this
    rfl
   | false =>
    rw [hs] at h;simp only [] at h;have mono : ∀ (es : List aX) (i q : Nat) (e : aX), ea d k es i = some (some (q, e)) → i ≤ q := by
     intro es
     induction es with
     | nil => intro i q e h; cases h
     | cons y es ih =>
      intro i q e h;have u : ea d k (y :: es) i = (match kZ d k y.key with | some true => some (some (i, y)) | some false => ea d k es (Nat.succ i) | none => none) := rfl
      rw [u] at h
      cases hy : kZ d k y.key with
      | none => rw [hy] at h; cases h
      | some b =>
       cases b with
       | true => rw [hy] at h; simp only [Option.some.injEq, Prod.mk.injEq] at h; omega
       | false => rw [hy] at h; have := ih _ _ _ h; omega
    have hm := mono es _ _ _ h
    cases j with
    | zero => have : i + 1 ≤ i + 0 := hm; omega
    | succ j =>
     have h2 : ea d k es (i + 1) = some (some (i + 1 + j, e)) := by rw [show i + 1 + j = i + (j + 1) by omega]; exact h
     have h3 := CX es (i + 1) j e h2;simpa using h3
section
variable {κ : Type} [DecidableEq κ] {enc : κ → AV} {m : List (κ × AV)} {S : AS} {id : Nat}
theorem jO {cx : Cx} {t : TypeId} {p : TypeDesc × AV} {v : AV} {k : κ} (h : xr cx t = some p) (hk : KeyE p.1 enc) (hm : DH S id enc m) :
  ∃ T, jC cx S t (.map id) (enc k) v = some (.undef, T) ∧ DH T id enc (oY m k v) ∧ (∀ j, j ≠ id → T.h.get j = S.h.get j) ∧ T.next = S.next := by
 obtain ⟨kt, et, h1, h2, h3⟩ := vF h;obtain ⟨es, clock, h5, h6, h7⟩ := hm;unfold jC;simp only [h1, h2, hk.plain, cond_true, h5];rcases v7 hk k v clock es m 0 h6 with ⟨j, e, g1, _, _, g4⟩ | ⟨g1, _, g3⟩
 ·rw [g1]
  simp only [Nat.zero_add];have he := CX es 0 j e g1;exact ⟨_, rfl, ⟨_, _, aa _ _ _, g4, E2 (BK j _ _ e he) h7⟩, fun i hi => ae _ _ hi, rfl⟩
 ·rw [g1]
  refine ⟨_, rfl, ⟨_, _, aa _ _ _, g3, ?_, ?_⟩, fun i hi => ae _ _ hi, rfl⟩
  ·intro e he
   rw [bd] at he;rcases List.mem_append.1 he with he | he
   ·exact Nat.lt_succ_of_lt (h7.1 e he)
   ·simp at he; subst he; exact Nat.lt_succ_self _
  ·rw [bd, List.pairwise_append]
   refine ⟨h7.2, by simp, fun a ha b hb => ?_⟩
   simp at hb; subst hb;have := h7.1 a ha;simp; omega
theorem y7 {d : TypeDesc} (hk : KeyE d enc) (k : κ) : ∀ (es : List aX) (m : List (κ × AV)) (i : Nat), es.map (fun e => (e.key, e.val)) = m.map (fun p => (enc p.1, p.2)) →
  (∃ j e, ea d (enc k) es i = some (some (i + j, e)) ∧ (sM j es).map (fun e => (e.key, e.val)) = (sd m k).map (fun p => (enc p.1, p.2))) ∨
  (ea d (enc k) es i = some none ∧ sd m k = m)
 | [], m, i, h => by
  cases m with
  | nil => exact .inr ⟨rfl, rfl⟩
  | cons p m => simp at h
 | e :: es, m, i, h => by
  cases m with
  | nil => simp at h
  | cons p m =>
   obtain ⟨a, w⟩ := p;simp only [List.map_cons, List.cons.injEq, Prod.mk.injEq] at h;obtain ⟨⟨h1, h2⟩, h3⟩ := h;have hs : ea d (enc k) (e :: es) i = (match kZ d (enc k) e.key with | some true => some (some (i, e)) | some false => ea d (enc k) es (Nat.succ i) | none => none) := rfl
   rw [hs, h1, hk.same]
   by_cases hka : k = a
   ·subst hka
    refine .inl ⟨0, e, by simp, ?_⟩
    show es.map _ = _;simp [sd, h3]
   ·rcases y7 hk k es m (i + 1) h3 with ⟨j, e', g1, g2⟩ | ⟨g1, g2⟩
    ·refine .inl ⟨j + 1, e', ?_, ?_⟩
     ·have : (i + 1 + j, e') = (i + (j + 1), e') := by rw [Nat.add_assoc, Nat.add_comm 1 j]
      simp only [hka, decide_false];rw [← this]; exact g1
     ·show (e :: sM j es).map _ = _
      simp [sd, hka, g2, h1, h2]
    ·exact .inr ⟨by simp only [hka, decide_false]; exact g1, by simp [sd, hka, g2]⟩
theorem qc {α : Type} : ∀ (j : Nat) (l : List α), (sM j l).Sublist l
 | _, [] => by
  rename_i j
  cases j <;> exact List.Sublist.refl _
 | 0, x :: l => List.sublist_cons_self x l
 | j + 1, x :: l => List.Sublist.cons_cons x (qc j l)
theorem wj {cx : Cx} {t : TypeId} {p : TypeDesc × AV} {k : κ} (h : xr cx t = some p) (hk : KeyE p.1 enc) (hm : DH S id enc m) :
  ∃ T, mB cx S t (.map id) (enc k) = some (.undef, T) ∧ DH T id enc (sd m k) ∧ (∀ j, j ≠ id → T.h.get j = S.h.get j) ∧ T.next = S.next := by
 obtain ⟨kt, et, h1, h2, h3⟩ := vF h;obtain ⟨es, clock, h5, h6, h7⟩ := hm;unfold mB;simp only [h1, h2, hk.plain, cond_true, h5];rcases y7 hk k es m 0 h6 with ⟨j, e, g1, g4⟩ | ⟨g1, g3⟩
 ·rw [g1]
  simp only [Nat.zero_add];exact ⟨_, rfl, ⟨_, _, aa _ _ _, g4, fun e he => h7.1 e ((qc j es).subset he), h7.2.sublist (qc j es)⟩, fun i hi => ae _ _ hi, rfl⟩
 ·rw [g1]
  exact ⟨_, rfl, ⟨_, _, aa _ _ _, by rw [g3]; exact h6, h7⟩, fun i hi => ae _ _ hi, rfl⟩
end
structure Ev where
 n : Nat
 key : List Nat
 u : AV
 ar : List dD
def Ev.v (e : Ev) : AV := .agg [.str e.key, e.u]
structure Nm where
 name : List Nat
 id : Nat
 g : Nat
 L : List ef
def Nm.v (m : Nm) : AV := .slice m.id m.g 0 m.L.length (m.L.length * 5) 5 none
structure XI where
 x : Nat
 me : Nat
 mn : Nat
 eb : List Ev
 fC : List Nm
 k : Nat
def XI.fm (X : XI) (id : Nat) : Prop := id = X.x ∨ id = X.me ∨ id = X.mn ∨ (∃ m, m ∈ X.fC ∧ id = m.id) ∨ ∃ e, e ∈ X.eb ∧ cJ e.u = id + 1
def XI.wf (X : XI) (id : Nat) : Prop := id = X.me ∨ id = X.mn ∨ ∃ m, m ∈ X.fC ∧ id = m.id
theorem XI.iW {X : XI} {id : Nat} (h : X.wf id) : X.fm id := by
 rcases h with h | h | h
 ·exact .inr (.inl h)
 ·exact .inr (.inr (.inl h))
 ·exact .inr (.inr (.inr (.inl h)))
def mY : List Nm → Nm → List Nm
 | [], m => [m]
 | a :: l, m => if m.name = a.name then m :: l else a :: mY l m
def sT : List Nm → List Nat → List Nm
 | [], _ => []
 | a :: l, s => if s = a.name then l else a :: sT l s
def mC : List Ev → Nat → List Ev
 | [], _ => []
 | a :: l, n => if n = a.n then l else a :: mC l n
def wW (m : Nm) : List Nat × AV := (m.name, m.v)
def DV (e : Ev) : Nat × AV := (e.n, e.v)
theorem qK (m : Nm) : ∀ l : List Nm, (mY l m).map wW = oY (l.map wW) m.name m.v
 | [] => rfl
 | a :: l => by
  have ih := qK m l
  by_cases h : m.name = a.name
  ·simp [mY, oY, wW, h]
  ·simp only [mY, h, if_false, List.map_cons, wW, oY, ih]
theorem Db (s : List Nat) : ∀ l : List Nm, (sT l s).map wW = sd (l.map wW) s
 | [] => rfl
 | a :: l => by
  have ih := Db s l
  by_cases h : s = a.name
  ·simp [sT, sd, wW, h]
  ·simp [sT, sd, wW, h]
   exact ih
theorem Dc (n : Nat) : ∀ l : List Ev, (mC l n).map DV = sd (l.map DV) n
 | [] => rfl
 | a :: l => by
  have ih := Dc n l
  by_cases h : n = a.n
  ·simp [mC, sd, DV, h]
  ·simp [mC, sd, DV, h]
   exact ih
theorem ig {m : Nm} : ∀ {l : List Nm}, l.Pairwise (fun a b => a.name ≠ b.name) → ∀ a, a ∈ mY l m ↔ a = m ∨ (a ∈ l ∧ a.name ≠ m.name)
 | [], _, a => by simp [mY]
 | b :: l, h, a => by
  obtain ⟨h1, h2⟩ := List.pairwise_cons.1 h;have ih := ig (m := m) h2 a;unfold mY
  by_cases e : m.name = b.name
  ·simp only [if_pos e, List.mem_cons]
   constructor
   ·rintro (h | h)
    ·exact .inl h
    ·exact .inr ⟨.inr h, fun e2 => h1 a h (e.symm.trans e2.symm)⟩
   ·rintro (h | ⟨rfl | h, h3⟩)
    ·exact .inl h
    ·exact absurd e.symm h3
    ·exact .inr h
  ·simp only [if_neg e, List.mem_cons, ih]
   constructor
   ·rintro (rfl | h | ⟨h, h3⟩)
    ·exact .inr ⟨.inl rfl, fun e2 => e e2.symm⟩
    ·exact .inl h
    ·exact .inr ⟨.inr h, h3⟩
   ·rintro (h | ⟨rfl | h, h3⟩)
    ·exact .inr (.inl h)
    ·exact .inl rfl
    ·exact .inr (.inr ⟨h, h3⟩)
theorem nJ {s : List Nat} : ∀ {l : List Nm}, l.Pairwise (fun a b => a.name ≠ b.name) → ∀ a, a ∈ sT l s ↔ a ∈ l ∧ a.name ≠ s
 | [], _, a => by simp [sT]
 | b :: l, h, a => by
  obtain ⟨h1, h2⟩ := List.pairwise_cons.1 h;have ih := nJ (s := s) h2 a;unfold sT
  by_cases e : s = b.name
  ·simp only [if_pos e, List.mem_cons]
   constructor
   ·intro h
    exact ⟨.inr h, fun e2 => h1 a h (e.symm.trans e2.symm)⟩
   ·rintro ⟨rfl | h, h3⟩
    ·exact absurd e.symm h3
    ·exact h
  ·simp only [if_neg e, List.mem_cons, ih]
   constructor
   ·rintro (rfl | ⟨h, h3⟩)
    ·exact ⟨.inl rfl, fun e2 => e e2.symm⟩
    ·exact ⟨.inr h, h3⟩
   ·rintro ⟨rfl | h, h3⟩
    ·exact .inl rfl
    ·exact .inr ⟨h, h3⟩
theorem vB {n : Nat} : ∀ {l : List Ev}, l.Pairwise (fun a b => a.n ≠ b.n) → ∀ a, a ∈ mC l n ↔ a ∈ l ∧ a.n ≠ n
 | [], _, a => by simp [mC]
 | b :: l, h, a => by
  obtain ⟨h1, h2⟩ := List.pairwise_cons.1 h;have ih := vB (n := n) h2 a;unfold mC
  by_cases e : n = b.n
  ·simp only [if_pos e, List.mem_cons]
   constructor
   ·intro h
    exact ⟨.inr h, fun e2 => h1 a h (e.symm.trans e2.symm)⟩
   ·rintro ⟨rfl | h, h3⟩
    ·exact absurd e.symm h3
    ·exact h
  ·simp only [if_neg e, List.mem_cons, ih]
   constructor
   ·rintro (rfl | ⟨h, h3⟩)
    ·exact ⟨.inl rfl, fun e2 => e e2.symm⟩
    ·exact ⟨.inr h, h3⟩
   ·rintro ⟨rfl | h, h3⟩
    ·exact .inl rfl
    ·exact .inr ⟨h, h3⟩
theorem Da (s : List Nat) : ∀ l : List Nm, (sT l s).Sublist l
 | [] => List.Sublist.refl _
 | a :: l => by
  unfold sT
  split
  ·exact List.sublist_cons_self a l
  ·exact List.Sublist.cons_cons a (Da s l)
theorem wq (n : Nat) : ∀ l : List Ev, (mC l n).Sublist l
 | [] => List.Sublist.refl _
 | a :: l => by
  unfold mC
  split
  ·exact List.sublist_cons_self a l
  ·exact List.Sublist.cons_cons a (wq n l)
theorem zV {R : Nm → Nm → Prop} {m : Nm} : ∀ {l : List Nm}, l.Pairwise (fun a b => a.name ≠ b.name) → l.Pairwise R → (∀ a, a ∈ l → a.name ≠ m.name → R a m ∧ R m a) → (mY l m).Pairwise R
 | [], _, _, _ => by simp [mY]
 | b :: l, hn, h, hr => by
  obtain ⟨n1, n2⟩ := List.pairwise_cons.1 hn;obtain ⟨h1, h2⟩ := List.pairwise_cons.1 h;unfold mY
  split
  ·rename_i e
   exact List.pairwise_cons.2 ⟨fun a ha => (hr a (List.mem_cons_of_mem _ ha) (fun e2 => n1 a ha (e.symm.trans e2.symm))).2, h2⟩
  ·rename_i e
   refine List.pairwise_cons.2 ⟨fun a ha => ?_, zV n2 h2 fun a ha bO => hr a (List.mem_cons_of_mem _ ha) bO⟩
   rcases (ig n2 a).1 ha with rfl | ⟨ha, _⟩
   ·exact (hr b (List.mem_cons_self ..) (fun e2 => e e2.symm)).1
   ·exact h1 a ha
theorem Ae {s : List Nat} : ∀ (l : List Nm), nI (l.map wW) s = (l.find? fun m => decide (m.name = s)).map Nm.v
 | [] => rfl
 | a :: l => by
  have ih := Ae (s := s) l;show (if s = a.name then some a.v else nI (l.map wW) s) = _
  by_cases e : s = a.name
  ·subst e; simp
  ·have e2 : ¬ a.name = s := fun h => e h.symm
   simp [e, e2, ih]
theorem Af {n : Nat} : ∀ (l : List Ev), nI (l.map DV) n = (l.find? fun e => decide (e.n = n)).map Ev.v
 | [] => rfl
 | a :: l => by
  have ih := Af (n := n) l;show (if n = a.n then some a.v else nI (l.map DV) n) = _
  by_cases e : n = a.n
  ·subst e; simp
  ·have e2 : ¬ a.n = n := fun h => e h.symm
   simp [e, e2, ih]
theorem qJ {α β : Type} {f : α → β} : ∀ {l : List α}, l.Pairwise (fun a b => f a ≠ f b) → ∀ {a b : α}, a ∈ l → b ∈ l → a ≠ b → f a ≠ f b
 | [], _, a, b, ha, _, _ => by cases ha
 | c :: l, h, a, b, ha, hb, qz => by
  obtain ⟨h1, h2⟩ := List.pairwise_cons.1 h;rcases List.mem_cons.1 ha with e1 | ha1
  ·rcases List.mem_cons.1 hb with e2 | lJ
   ·exact absurd (e1.trans e2.symm) qz
   ·rw [e1]; exact h1 b lJ
  ·rcases List.mem_cons.1 hb with e2 | lJ
   ·rw [e2]; exact fun e => h1 a ha1 e.symm
   ·exact qJ h2 ha1 lJ qz
structure bL (S : AS) (X : XI) (P : List Nat → ef → Prop) : Prop where
 x : S.h.get X.x = some (.row [.map X.me, .map X.mn] 0 0 false 73)
 lx : X.x < S.next
 Bl : X.me < S.next
 lmn : X.mn < S.next
 em : DH S X.me (fun n : Nat => AV.int .u64 (n : Int)) (X.eb.map DV)
 nm : DH S X.mn (fun s : List Nat => AV.str s) (X.fC.map wW)
 row : ∀ m, m ∈ X.fC → m.id < S.next ∧ ∃ low, low ≤ m.g ∧ S.h.get m.id = some (.row (m.L.flatMap bB) low m.g false 80)
 kK : ∀ e, e ∈ X.eb → eF S e.u e.ar
 ne1 : X.x ≠ X.me
 ne2 : X.x ≠ X.mn
 ne3 : X.me ≠ X.mn
 nid : ∀ m, m ∈ X.fC → m.id ≠ X.x ∧ m.id ≠ X.me ∧ m.id ≠ X.mn
 aid : ∀ e, e ∈ X.eb → cJ e.u ≠ X.x + 1 ∧ cJ e.u ≠ X.me + 1 ∧ cJ e.u ≠ X.mn + 1 ∧ ∀ m, m ∈ X.fC → cJ e.u ≠ m.id + 1
 ids : X.fC.Pairwise fun a b => a.id ≠ b.id
 evk : X.eb.Pairwise fun a b => a.n ≠ b.n
 tv : X.fC.Pairwise fun a b => a.name ≠ b.name
 yw : ∀ m, m ∈ X.fC → jz m.L
 mem : ∀ m, m ∈ X.fC → ∀ e, e ∈ m.L ↔ P m.name e
 all : ∀ s e, P s e → ∃ m, m ∈ X.fC ∧ m.name = s
 len : ∀ m, m ∈ X.fC → m.L.length ≤ X.k
 evl : X.eb.length ≤ X.k
def eP (X : XI) : Prop := ∀ m, m ∈ X.fC → m.L ≠ []
section
variable {S T : AS} {X : XI} {P : List Nat → ef → Prop}
theorem bL.kA (h : bL S X P) {id : Nat} (hf : X.fm id) : id < S.next := by
 rcases hf with rfl | rfl | rfl | ⟨m, hm, rfl⟩ | ⟨e, he, hb⟩
 ·exact h.lx
 ·exact h.Bl
 ·exact h.lmn
 ·exact (h.row m hm).1
 ·have := (h.kK e he).sl.old; omega
theorem bL.bR (h : bL S X P) (hs : ∀ id, X.fm id → T.h.get id = S.h.get id) (hn : S.next ≤ T.next) : bL T X P := by
 refine { h with x := ?_, lx := ?_, Bl := ?_, lmn := ?_, em := ?_, nm := ?_, row := ?_, kK := ?_ }
 ·rw [hs _ (.inl rfl)]; exact h.x
 ·exact Nat.lt_of_lt_of_le h.lx hn
 ·exact Nat.lt_of_lt_of_le h.Bl hn
 ·exact Nat.lt_of_lt_of_le h.lmn hn
 ·exact h.em.bR (hs _ (.inr (.inl rfl)))
 ·exact h.nm.bR (hs _ (.inr (.inr (.inl rfl))))
 ·intro m hm
  obtain ⟨h1, low, h2, h3⟩ := h.row m hm;exact ⟨Nat.lt_of_lt_of_le h1 hn, low, h2, by rw [hs _ (.inr (.inr (.inr (.inl ⟨m, hm, rfl⟩))))]; exact h3⟩
 ·intro e he
  have ha := h.kK e he;exact ⟨ha.sl.bR (fun id hb => hs _ (.inr (.inr (.inr (.inr ⟨e, he, hb⟩))))) hn, ha.le⟩
theorem bL.sub (h : bL S X P) (hs : Sub S T) : bL T X P := h.bR (fun id hf => hs.h id (h.kA hf)) hs.next
theorem bL.bm {A : Nat → Prop} (h : bL S X P) (hs : eS A S T) (ha : ∀ id, X.fm id → ¬ A id) : bL T X P := h.bR (fun id hf => hs.h id (h.kA hf) (ha id hf)) hs.next
theorem bL.iff {Q : List Nat → ef → Prop} (h : bL S X P) (hq : ∀ s e, P s e ↔ Q s e) : bL S X Q := { h with mem := fun m hm e => (h.mem m hm e).trans (hq _ _), all := fun s e hp => h.all s e ((hq _ _).2 hp) }
theorem bL.find (h : bL S X P) (s : List Nat) : (∃ m, m ∈ X.fC ∧ m.name = s ∧ nI (X.fC.map wW) s = some m.v) ∨ (nI (X.fC.map wW) s = none ∧ (∀ m, m ∈ X.fC → m.name ≠ s) ∧ ∀ e, ¬ P s e) := by
 rw [Ae]
 cases hf : X.fC.find? fun m => decide (m.name = s) with
 | some m =>
  have h1 := List.find?_some hf;exact .inl ⟨m, List.mem_of_find?_eq_some hf, by simpa using h1, rfl⟩
 | none =>
  have h1 := List.find?_eq_none.1 hf;refine .inr ⟨rfl, fun m hm e => by simpa [e] using h1 m hm, fun e hp => ?_⟩
  obtain ⟨m, hm, e⟩ := h.all s e hp;simpa [e] using h1 m hm
theorem bL.ea (h : bL S X P) (n : Nat) : (∃ e, e ∈ X.eb ∧ e.n = n ∧ nI (X.eb.map DV) n = some e.v) ∨ (nI (X.eb.map DV) n = none ∧ ∀ e, e ∈ X.eb → e.n ≠ n) := by
 rw [Af]
 cases hf : X.eb.find? fun e => decide (e.n = n) with
 | some m =>
  have h1 := List.find?_some hf;exact .inl ⟨m, List.mem_of_find?_eq_some hf, by simpa using h1, rfl⟩
 | none =>
  have h1 := List.find?_eq_none.1 hf;exact .inr ⟨rfl, fun m hm e => by simpa [e] using h1 m hm⟩
theorem bL.sl (h : bL S X P) {m : Nm} (hm : m ∈ X.fC) : Sl S m.v 5 (m.L.flatMap bB) := by
 obtain ⟨h1, low, h2, h3⟩ := h.row m hm;refine ⟨by simp [Nm.v, isSl, jr], ?_, by simp only [Nm.v, sLen]; exact my bF m.L, by simp only [Nm.v, cJ]; exact h1⟩
 unfold Nm.v
 cases hl : m.L with
 | nil => simp [nC]
 | cons a l =>
  rw [hl] at h3;have h4 := my bF (a :: l);simp only [List.length_cons] at h4 ⊢;simp only [nC, fV, h3, dQ];rw [if_pos ⟨h2, Nat.le_refl _, by omega⟩, List.drop_zero, List.take_of_length_le (by rw [h4]; exact Nat.le_refl _)]
theorem bL.put (h : bL S X P) {m : Nm} {k : Nat} {Q : List Nat → ef → Prop} (bY : (∃ m0, m0 ∈ X.fC ∧ m0.name = m.name ∧ m0.id = m.id) ∨ S.next ≤ m.id) (aL : m.id < T.next) (hn : S.next ≤ T.next)
  (hT : ∀ id, X.fm id → id ≠ m.id → id ≠ X.mn → T.h.get id = S.h.get id) (fw : ∃ low, low ≤ m.g ∧ T.h.get m.id = some (.row (m.L.flatMap bB) low m.g false 80))
  (hmp : DH T X.mn (fun s : List Nat => AV.str s) ((mY X.fC m).map wW)) (hr : jz m.L) (hm : ∀ e, e ∈ m.L ↔ Q m.name e) (hq : ∀ s e, s ≠ m.name → (Q s e ↔ P s e)) (hk : X.k ≤ k) (hl : m.L.length ≤ k) :
  bL T { X with fC := mY X.fC m, k := k } Q := by
 have hlx := h.lx;have hlme := h.Bl;have hlmn := h.lmn;have CF : m.id ≠ X.x ∧ m.id ≠ X.me ∧ m.id ≠ X.mn ∧ ∀ a, a ∈ X.fC → a.name ≠ m.name → a.id ≠ m.id := by
  rcases bY with ⟨m0, h0, h1, h2⟩ | m9
  ·obtain ⟨a1, a2, a3⟩ := h.nid m0 h0
   refine ⟨by rw [← h2]; exact a1, by rw [← h2]; exact a2, by rw [← h2]; exact a3, fun a ha bO e => ?_⟩
   have hne2 : a ≠ m0 := fun e2 => bO (by rw [e2]; exact h1)
   exact qJ h.ids ha h0 hne2 (e.trans h2.symm)
  ·refine ⟨by omega, by omega, by omega, fun a ha _ e => ?_⟩
   have := (h.row a ha).1; omega
 have dj := ig (m := m) h.tv;refine ⟨?_, by show X.x < T.next; omega, by show X.me < T.next; omega, by show X.mn < T.next; omega, ?_, hmp, ?_, ?_, h.ne1, h.ne2, h.ne3, ?_, ?_, ?_, h.evk, ?_, ?_, ?_, ?_, ?_, Nat.le_trans h.evl hk⟩
 ·rw [← h.x]; exact hT _ (.inl rfl) (fun e => CF.1 e.symm) h.ne2
 ·exact h.em.bR (hT _ (.inr (.inl rfl)) (fun e => CF.2.1 e.symm) h.ne3)
 ·intro a ha
  rcases (dj a).1 ha with rfl | ⟨ha, bO⟩
  ·exact ⟨aL, fw⟩
  ·obtain ⟨h1, low, h2, h3⟩ := h.row a ha
   exact ⟨Nat.lt_of_lt_of_le h1 hn, low, h2, by rw [hT _ (.inr (.inr (.inr (.inl ⟨a, ha, rfl⟩)))) (CF.2.2.2 a ha bO) (h.nid a ha).2.2]; exact h3⟩
 ·intro e he
  have ha := h.kK e he;have hb := h.aid e he;have hold := ha.sl.old;refine ⟨ha.sl.bR (fun id hid' => hT _ (.inr (.inr (.inr (.inr ⟨e, he, hid'⟩)))) ?_ (by have := hb.2.2.1; omega)) hn, ha.le⟩
  rcases bY with ⟨m0, h0, _, h2⟩ | m9
  ·have := hb.2.2.2 m0 h0; omega
  ·omega
 ·intro a ha
  rcases (dj a).1 ha with rfl | ⟨ha, _⟩
  ·exact ⟨CF.1, CF.2.1, CF.2.2.1⟩
  ·exact h.nid a ha
 ·intro e he
  have hb := h.aid e he;have hold := (h.kK e he).sl.old;refine ⟨hb.1, hb.2.1, hb.2.2.1, fun a ha => ?_⟩
  rcases (dj a).1 ha with rfl | ⟨ha, _⟩
  ·rcases bY with ⟨m0, h0, _, h2⟩ | m9
   ·have := hb.2.2.2 m0 h0; omega
   ·omega
  ·exact hb.2.2.2 a ha
 ·exact zV h.tv h.ids fun a ha bO => ⟨CF.2.2.2 a ha bO, fun e => CF.2.2.2 a ha bO e.symm⟩
 ·exact zV h.tv h.tv fun a ha bO => ⟨bO, fun e => bO e.symm⟩
 ·intro a ha
  rcases (dj a).1 ha with rfl | ⟨ha, _⟩
  ·exact hr
  ·exact h.yw a ha
 ·intro a ha e
  rcases (dj a).1 ha with rfl | ⟨ha, bO⟩
  ·exact hm e
  ·exact (h.mem a ha e).trans (hq _ _ bO).symm
 ·intro s e hp
  by_cases hs : s = m.name
  ·exact ⟨m, (dj m).2 (.inl rfl), hs.symm⟩
  ·obtain ⟨a, ha, he⟩ := h.all s e ((hq s e hs).1 hp)
   exact ⟨a, (dj a).2 (.inr ⟨ha, fun e2 => hs (he.symm.trans e2)⟩), he⟩
 ·intro a ha
  rcases (dj a).1 ha with rfl | ⟨ha, _⟩
  ·exact hl
  ·exact Nat.le_trans (h.len a ha) hk
theorem bL.drop (h : bL S X P) {s : List Nat} (hn : S.next ≤ T.next) (hT : ∀ id, X.fm id → id ≠ X.mn → T.h.get id = S.h.get id) (hmp : DH T X.mn (fun s : List Nat => AV.str s) ((sT X.fC s).map wW)) (hp : ∀ e, ¬ P s e) :
  bL T { X with fC := sT X.fC s } P := by
 have dj := nJ (s := s) h.tv;have cr := Da s X.fC;refine ⟨?_, Nat.lt_of_lt_of_le h.lx hn, Nat.lt_of_lt_of_le h.Bl hn, Nat.lt_of_lt_of_le h.lmn hn, ?_, hmp, ?_, ?_, h.ne1, h.ne2, h.ne3, ?_, ?_, h.ids.sublist cr, h.evk, h.tv.sublist cr, ?_, ?_, ?_, ?_, h.evl⟩
 ·rw [← h.x]; exact hT _ (.inl rfl) h.ne2
 ·exact h.em.bR (hT _ (.inr (.inl rfl)) h.ne3)
 ·intro a ha
  have ha := ((dj a).1 ha).1;obtain ⟨h1, low, h2, h3⟩ := h.row a ha;exact ⟨Nat.lt_of_lt_of_le h1 hn, low, h2, by rw [hT _ (.inr (.inr (.inr (.inl ⟨a, ha, rfl⟩)))) (h.nid a ha).2.2]; exact h3⟩
 ·intro e he
  have ha := h.kK e he;exact ⟨ha.sl.bR (fun id hid' => hT _ (.inr (.inr (.inr (.inr ⟨e, he, hid'⟩)))) (by have := (h.aid e he).2.2.1; omega)) hn, ha.le⟩
 ·intro a ha
  exact h.nid a ((dj a).1 ha).1
 ·intro e he
  obtain ⟨b1, b2, b3, b4⟩ := h.aid e he;exact ⟨b1, b2, b3, fun a ha => b4 a ((dj a).1 ha).1⟩
 ·intro a ha
  exact h.yw a ((dj a).1 ha).1
 ·intro a ha
  exact h.mem a ((dj a).1 ha).1
 ·intro s' e hpe
  obtain ⟨a, ha, he⟩ := h.all s' e hpe;exact ⟨a, (dj a).2 ⟨ha, fun e2 => hp e (by rw [← e2, he]; exact hpe)⟩, he⟩
 ·intro a ha
  exact h.len a ((dj a).1 ha).1
theorem bL.add (h : bL S X P) {ev : Ev} (jq : ∀ e, e ∈ X.eb → e.n ≠ ev.n) (hn : S.next ≤ T.next) (hT : ∀ id, X.fm id → id ≠ X.me → T.h.get id = S.h.get id) (hmp : DH T X.me (fun n : Nat => AV.int .u64 (n : Int)) ((X.eb ++ [ev]).map DV))
  (ha : eF T ev.u ev.ar) (hb : cJ ev.u = 0 ∨ S.next < cJ ev.u) : bL T { X with eb := X.eb ++ [ev], k := X.k + 1 } P := by
 have hlx := h.lx;have hlme := h.Bl;have hlmn := h.lmn;refine ⟨?_, by show X.x < T.next; omega, by show X.me < T.next; omega, by show X.mn < T.next; omega, hmp, ?_, ?_, ?_, h.ne1, h.ne2, h.ne3, h.nid, ?_, h.ids, ?_, h.tv, h.yw, h.mem, h.all, fun m hm => Nat.le_succ_of_le (h.len m hm), ?_⟩
 ·rw [← h.x]; exact hT _ (.inl rfl) h.ne1
 ·exact h.nm.bR (hT _ (.inr (.inr (.inl rfl))) (fun e => h.ne3 e.symm))
 ·intro a ha
  obtain ⟨h1, low, h2, h3⟩ := h.row a ha;exact ⟨Nat.lt_of_lt_of_le h1 hn, low, h2, by rw [hT _ (.inr (.inr (.inr (.inl ⟨a, ha, rfl⟩)))) (h.nid a ha).2.1]; exact h3⟩
 ·intro e he
  rcases List.mem_append.1 he with he | he
  ·have ha := h.kK e he
   exact ⟨ha.sl.bR (fun id hid' => hT _ (.inr (.inr (.inr (.inr ⟨e, he, hid'⟩)))) (by have := (h.aid e he).2.1; omega)) hn, ha.le⟩
  ·simp at he; subst he; exact ha
 ·intro e he
  rcases List.mem_append.1 he with he | he
  ·exact h.aid e he
  ·simp at he; subst he
   refine ⟨by show cJ e.u ≠ X.x + 1; omega, by show cJ e.u ≠ X.me + 1; omega, by show cJ e.u ≠ X.mn + 1; omega, fun m hm => ?_⟩
   have := (h.row m hm).1; omega
 ·rw [List.pairwise_append]
  exact ⟨h.evk, by simp, fun a ha' b hb => by simp at hb; subst hb; exact jq a ha'⟩
 ·rw [List.length_append]
  have := h.evl;show X.eb.length + 1 ≤ X.k + 1; omega
theorem bL.del (h : bL S X P) {n : Nat} (hn : S.next ≤ T.next) (hT : ∀ id, X.fm id → id ≠ X.me → T.h.get id = S.h.get id) (hmp : DH T X.me (fun n : Nat => AV.int .u64 (n : Int)) ((mC X.eb n).map DV)) :
  bL T { X with eb := mC X.eb n } P := by
 have cr := wq n X.eb;refine ⟨?_, Nat.lt_of_lt_of_le h.lx hn, Nat.lt_of_lt_of_le h.Bl hn, Nat.lt_of_lt_of_le h.lmn hn, hmp, ?_, ?_, ?_, h.ne1, h.ne2, h.ne3, h.nid, ?_, h.ids, h.evk.sublist cr, h.tv, h.yw, h.mem, h.all, h.len, Nat.le_trans cr.length_le h.evl⟩
 ·rw [← h.x]; exact hT _ (.inl rfl) h.ne1
 ·exact h.nm.bR (hT _ (.inr (.inr (.inl rfl))) (fun e => h.ne3 e.symm))
 ·intro a ha
  obtain ⟨h1, low, h2, h3⟩ := h.row a ha;exact ⟨Nat.lt_of_lt_of_le h1 hn, low, h2, by rw [hT _ (.inr (.inr (.inr (.inl ⟨a, ha, rfl⟩)))) (h.nid a ha).2.1]; exact h3⟩
 ·intro e he
  have he := cr.subset he;have ha := h.kK e he;exact ⟨ha.sl.bR (fun id hid' => hT _ (.inr (.inr (.inr (.inr ⟨e, he, hid'⟩)))) (by have := (h.aid e he).2.1; omega)) hn, ha.le⟩
 ·intro e he
  exact h.aid e (cr.subset he)
end
def na (X : XI) (s : List Nat) (e : ef) : Prop := ∃ ev, ev ∈ X.eb ∧ ev.n = e.n ∧ (⟨s, e.v⟩ : dD) ∈ ev.ar
structure Step (S T : AS) (X X' : XI) : Prop where
 bm : eS X.wf S T
 wf : ∀ id, X'.wf id → X.wf id ∨ S.next ≤ id
 fm : ∀ id, X'.fm id → X.fm id ∨ S.next ≤ id
theorem Step.refl {S : AS} {X : XI} : Step S S X X := ⟨eS.refl, fun _ h => .inl h, fun _ h => .inl h⟩
theorem Step.trans {R S T : AS} {X Y Z : XI} (h : Step R S X Y) (k : Step S T Y Z) : Step R T X Z := by
 refine ⟨⟨fun id h1 h2 => ?_, Nat.le_trans h.bm.next k.bm.next⟩, fun id hf => ?_, fun id hf => ?_⟩
 ·rw [← h.bm.h id h1 h2]
  exact k.bm.h id (Nat.lt_of_lt_of_le h1 h.bm.next) fun hy => (h.wf id hy).elim h2 fun h3 => by omega
 ·rcases k.wf id hf with h1 | h1
  ·exact h.wf id h1
  ·exact .inr (Nat.le_trans h.bm.next h1)
 ·rcases k.fm id hf with h1 | h1
  ·exact h.fm id h1
  ·exact .inr (Nat.le_trans h.bm.next h1)
theorem Step.vq {S T : AS} {X : XI} (h : Sub S T) : Step S T X X := ⟨⟨fun id h1 _ => h.h id h1, h.next⟩, fun _ h => .inl h, fun _ h => .inl h⟩
theorem o_fn8 : C1.fns.get 8 = some Tryz.f8 := by kernel_rfl
theorem o_ok8 : codeOk C1 Tryz.f8.ntmps (Tryz.f8.body.getD .skip) = true := by kernel_rfl
@[simp] theorem o_mt70 : E3 C1 70 = true := by kernel_rfl
@[simp] theorem o_mt71 : E3 C1 71 = true := by kernel_rfl
theorem o_fn9 : C1.fns.get 9 = some Tryz.f9 := by kernel_rfl
theorem o_ok9 : codeOk C1 Tryz.f9.ntmps (Tryz.f9.body.getD .skip) = true := by kernel_rfl
@[simp] theorem o_ag33 : aE C1 33 = some true := by kernel_rfl
@[simp] theorem o_sz33 : aw C1 33 = some 2 := by kernel_rfl
@[simp] theorem o_fa73_0 : fieldAt C1 73 0 = some 0 := by kernel_rfl
@[simp] theorem o_ag70 : aE C1 70 = some false := by kernel_rfl
@[simp] theorem o_sz70 : aw C1 70 = some 1 := by kernel_rfl
@[simp] theorem vr : xr C1 70 = some ((.int .u64), .agg [.str [], .aH]) := by kernel_rfl
@[simp] theorem o_ze33 : zeroOf C1 33 = some (.agg [.str [], .aH]) := by kernel_rfl
@[simp] theorem o_fa33_0 : fieldAt C1 33 0 = some 0 := by kernel_rfl
@[simp] theorem o_ag9 : aE C1 9 = some false := by kernel_rfl
@[simp] theorem o_sz9 : aw C1 9 = some 1 := by kernel_rfl
@[simp] theorem o_fa33_1 : fieldAt C1 33 1 = some 1 := by kernel_rfl
@[simp] theorem o_ag31 : aE C1 31 = some false := by kernel_rfl
@[simp] theorem o_sz31 : aw C1 31 = some 1 := by kernel_rfl
@[simp] theorem o_st31 : kP C1 31 = some (65, 5, 56) := by kernel_rfl
@[simp] theorem o_ag65 : aE C1 65 = some true := by kernel_rfl
@[simp] theorem o_sz65 : aw C1 65 = some 5 := by kernel_rfl
@[simp] theorem o_ze65 : zeroOf C1 65 = some (.agg [.str [], .int .i64 0, .int .i64 0, .str [], .bool false]) := by kernel_rfl
@[simp] theorem o_fa73_1 : fieldAt C1 73 1 = some 1 := by kernel_rfl
@[simp] theorem o_ag71 : aE C1 71 = some false := by kernel_rfl
@[simp] theorem o_sz71 : aw C1 71 = some 1 := by kernel_rfl
@[simp] theorem o_fa65_0 : fieldAt C1 65 0 = some 0 := by kernel_rfl
@[simp] theorem pO : xr C1 71 = some (.string, .aH) := by kernel_rfl
@[simp] theorem o_fa65_1 : fieldAt C1 65 1 = some 1 := by kernel_rfl
@[simp] theorem o_ag50 : aE C1 50 = some true := by kernel_rfl
@[simp] theorem o_sz50 : aw C1 50 = some 4 := by kernel_rfl
@[simp] theorem o_sz80 : aw C1 80 = some 5 := by kernel_rfl
@[simp] theorem o_ze80 : zeroOf C1 80 = some (.agg [.int .i64 0, .int .i64 0, .str [], .bool false, .int .u64 0]) := by kernel_rfl
@[simp] theorem o_ag80 : aE C1 80 = some true := by kernel_rfl
@[simp] theorem z9 : kP C1 78 = some (80, 5, 48) := by kernel_rfl
@[simp] theorem o_ag78 : aE C1 78 = some false := by kernel_rfl
theorem o_fn11 : C1.fns.get 11 = some Tryz.f11 := by kernel_rfl
theorem o_ok11 : codeOk C1 Tryz.f11.ntmps (Tryz.f11.body.getD .skip) = true := by kernel_rfl
theorem o_fn12 : C1.fns.get 12 = some Tryz.f12 := by kernel_rfl
theorem o_ok12 : codeOk C1 Tryz.f12.ntmps (Tryz.f12.body.getD .skip) = true := by kernel_rfl
@[simp] theorem o_st25 : kP C1 25 = some (54, 7, 88) := by kernel_rfl
@[simp] theorem o_fa54_0 : fieldAt C1 54 0 = some 0 := by kernel_rfl
@[simp] theorem o_ag54 : aE C1 54 = some true := by kernel_rfl
@[simp] theorem o_sz54 : aw C1 54 = some 7 := by kernel_rfl
@[simp] theorem o_ze54 : zeroOf C1 54 = some (.agg [.str [], .int .i64 0, .int .i64 0, .int .i64 0, .str [], .bool false, .aH]) := by kernel_rfl
@[simp] theorem o_fa80_1 : fieldAt C1 80 1 = some 4 := by kernel_rfl
@[simp] theorem o_ag30 : aE C1 30 = some false := by kernel_rfl
@[simp] theorem o_sz30 : aw C1 30 = some 1 := by kernel_rfl
@[simp] theorem o_st38 : kP C1 38 = some (30, 1, 8) := by kernel_rfl
@[simp] theorem o_ag38 : aE C1 38 = some false := by kernel_rfl
@[simp] theorem o_un38 : aZ C1 38 = some (.slice 30) := by kernel_rfl
theorem o_fn17 : C1.fns.get 17 = some Tryz.f17 := by kernel_rfl
theorem o_ok17 : codeOk C1 Tryz.f17.ntmps (Tryz.f17.body.getD .skip) = true := by kernel_rfl
theorem o_fn18 : C1.fns.get 18 = some Tryz.f18 := by kernel_rfl
theorem o_ok18 : codeOk C1 Tryz.f18.ntmps (Tryz.f18.body.getD .skip) = true := by kernel_rfl
theorem o_fn27 : C1.fns.get 27 = some Tryz.f27 := by kernel_rfl
theorem o_ok27 : codeOk C1 Tryz.f27.ntmps (Tryz.f27.body.getD .skip) = true := by kernel_rfl
@[simp] theorem o_pt26 : ptT C1 26 = true := by kernel_rfl
theorem o_fn47 : C1.fns.get 47 = some Tryz.f47 := by kernel_rfl
theorem o_ok47 : codeOk C1 Tryz.f47.ntmps (Tryz.f47.body.getD .skip) = true := by kernel_rfl
theorem eqm70 (c : Bool) (i : Nat) : cK C1 .eql 70 c (.map i) .gm = some (.bool false) := by kernel_rfl
theorem C7 {S : AS} {t : TypeId} {ts : List TypeId} {m k : AV} : aJ C1 S .delete (t :: ts) [m, k] = b8 (mB C1 S t m k) 16 := rfl
@[simp] theorem bld73 (a b : Nat) : kJ C1 73 [(0, .map a), (1, .map b)] = some (.agg [.map a, .map b]) := by kernel_rfl
theorem agg_u {S : AS} {u : AV} {k : List Nat} {sz : Nat} {cs : List AV} (h : Sl S u sz cs) : kJ C1 33 [(0, .str k), (1, u)] = some (.agg [.str k, u]) := by
 rcases h.cases with rfl | ⟨_, _, _, _, _, _, rfl⟩ <;> kernel_rfl
@[simp] theorem bld80 (a b : Int) (s : List Nat) (t : Bool) (n : Int) : kJ C1 80 [(0, .agg [.int .i64 a, .int .i64 b, .str s, .bool t]), (1, .int .u64 n)] = some (.agg [.int .i64 a, .int .i64 b, .str s, .bool t, .int .u64 n]) := by kernel_rfl
section
variable {S : AS} {X : XI} {P : List Nat → ef → Prop}
theorem jo (h : bL S X P) {Q : AV → AS → Prop} : ai C1 27 [.ptr X.x 0 0 2] S Q = Q (.bool false) S := by
 refine ai.eq (cv (EI _) (pr1 _ rfl) o_fn27 rfl o_ok27 (by simp) fun F hn s0 => ?_)
 simp [s0, h.x, eqm70]
def X0 (n : Nat) : XI := ⟨n + 2, n, n + 1, [], [], 0⟩
theorem new8 : ai C1 8 [] S fun v T => v = .ptr (S.next + 2) 0 0 2 ∧ bL T (X0 S.next) (na (X0 S.next)) ∧ Sub S T ∧ T.next = S.next + 3 := by
 refine br (EI _) (pr1 _ rfl) o_fn8 rfl o_ok8 (by simp) fun F hn hs => ?_
 clear hs;simp;have wf : mW [] 0 := ⟨fun e he => (by cases he), List.Pairwise.nil⟩
 have e0 : (((S.h.set S.next (bW.map [] 0)).set (S.next + 1) (bW.map [] 0)).set (S.next + 2) (bW.row [AV.map S.next, AV.map (S.next + 1)] 0 0 false 73)).get S.next = some (.map [] 0) := by
  rw [ae _ _ (by omega), ae _ _ (by omega)]; exact aa _ _ _
 have e1 : (((S.h.set S.next (bW.map [] 0)).set (S.next + 1) (bW.map [] 0)).set (S.next + 2) (bW.row [AV.map S.next, AV.map (S.next + 1)] 0 0 false 73)).get (S.next + 1) = some (.map [] 0) := by
  rw [ae _ _ (by omega)]; exact aa _ _ _
 refine ⟨⟨aa _ _ _, by show S.next + 2 < S.next + 1 + 2; omega, by show S.next < S.next + 1 + 2; omega, by show S.next + 1 < S.next + 1 + 2; omega, ⟨[], 0, e0, rfl, wf⟩, ⟨[], 0, e1, rfl, wf⟩, fun m hm => (by cases hm), fun m hm => (by cases hm),
  by show S.next + 2 ≠ S.next; omega, by show S.next + 2 ≠ S.next + 1; omega, by show S.next ≠ S.next + 1; omega, fun m hm => (by cases hm), fun m hm => (by cases hm), List.Pairwise.nil, List.Pairwise.nil, List.Pairwise.nil, fun m hm => (by cases hm), fun m hm => (by cases hm), fun s e he => ?_, fun m hm => (by cases hm), Nat.le_refl _⟩, ?_⟩
 ·obtain ⟨ev, h, _⟩ := he
  cases h
 ·exact (((Sub.refl S).set _ _ (Nat.le_refl _) _ (Nat.le_succ _)).set _ _ (Nat.le_succ _) _ (Nat.le_succ (S.next + 1))).set _ _ (Nat.le_add_right _ _) _ (Nat.le_succ (S.next + 2))
theorem entries18 (h : bL S X P) (s : List Nat) : ai C1 18 [.ptr X.x 0 0 2, .str s] S fun v T => T = S ∧ ((∃ m, m ∈ X.fC ∧ m.name = s ∧ v = .int .i64 (m.L.length : Int)) ∨ ((∀ e, ¬ P s e) ∧ v = .int .i64 0)) := by
 have hlk := lA (cx := C1) (t := 71) (k := s) (ok := false) pO pR (h.nm.mp h.lmn);refine cU (EI _) (pr1 _ rfl) o_fn18 rfl o_ok18 (by simp) fun F hn s0 s1 => ?_
 rcases h.find s with ⟨m, hm, h1, h2⟩ | ⟨h2, _, h3⟩
 ·rw [h2] at hlk
  simp [Nm.v] at hlk;simp [s0, s1, nS, jo h, h.x, hlk];exact .inl ⟨m, hm, h1, rfl⟩
 ·rw [h2] at hlk
  simp at hlk;simp [s0, s1, nS, jo h, h.x, hlk];exact .inr h3
def fO (X : XI) : List Nat := (X.eb.map Ev.n).mergeSort fun a b => decide (a ≤ b)
theorem ek (l : List Nat) : (cI l).length = l.length := by simp [cI]
theorem out46_ok (S : AS) (l : List Nat) : Sl (nH S l).2 (nH S l).1 1 (cI l) ∧ Sub S (nH S l).2 := by
 cases l with
 | nil => exact ⟨Sl.nil, Sub.refl S⟩
 | cons x l =>
  refine ⟨⟨by simp [nH, isSl, jr], ?_, by rw [ek]; simp [nH, sLen], by simp only [nH, cJ]; omega⟩, ?_⟩
  ·simp only [nH, nC, fV]
   rw [aa, dQ, if_pos ⟨Nat.le_refl _, Nat.le_refl _, by omega⟩, List.drop_zero, List.take_of_length_le (by rw [ek]; simp)]
  ·exact (Sub.refl S).set _ _ (Nat.le_add_right _ _) _ (Nat.le_add_right _ _)
theorem keys_of {es : List aX} {l : List (Nat × AV)} (h : es.map (fun e => (e.key, e.val)) = l.map (fun p => (AV.int .u64 (p.1 : Int), p.2))) : es.map gQ = l.map (·.1) ∧ ∀ e, e ∈ es → e.key = .int .u64 (gQ e : Int) := by
 induction es generalizing l with
 | nil => cases l with
  | nil => exact ⟨rfl, fun e he => (by cases he)⟩
  | cons p l => simp at h
 | cons e es ih => cases l with
  | nil => simp at h
  | cons p l =>
   simp only [List.map_cons, List.cons.injEq, Prod.mk.injEq] at h;obtain ⟨⟨h1, h2⟩, h3⟩ := h;obtain ⟨i1, i2⟩ := ih h3;have hk : gQ e = p.1 := by unfold gQ; rw [h1]
   refine ⟨by simp [i1, hk], fun a ha => ?_⟩
   rcases List.mem_cons.1 ha with rfl | ha
   ·rw [hk]; exact h1
   ·exact i2 a ha
theorem keys47 (m : Nat) : ai C1 47 [.map m] S fun v T => v = .func (.func 79) [] [.ptr S.next 0 0 1] ∧ T = ⟨S.h.set S.next (.row [.map m] 0 0 false 70), S.next + 1⟩ := by
 refine cv (EI _) (pr1 _ rfl) o_fn47 rfl o_ok47 (by simp) fun F hn s0 => ?_
 simp [s0]
theorem yG (h : bL S X P) (hk : X.k ≤ 1048576) : ai C1 17 [.ptr X.x 0 0 2] S fun v T => Sl T v 1 (cI (fO X)) ∧ Sub S T := by
 obtain ⟨es, clock, h1, h2, h3⟩ := h.em;obtain ⟨k1, k2⟩ := keys_of h2;have hev := h.evl;have hlen : es.length = X.eb.length := by have := congrArg List.length h2; simpa using this
 have hris : tr es = fO X := by
  unfold tr fO;rw [k1, List.map_map]
  rfl
 obtain ⟨v, T, ⟨rfl, rfl⟩, e1⟩ := (keys47 (S := S) X.me).ex;have hq : q46 [.func (.func 79) [] [.ptr S.next 0 0 1]] ⟨S.h.set S.next (.row [.map X.me] 0 0 false 70), S.next + 1⟩ = some (nH ⟨S.h.set S.next (.row [.map X.me] 0 0 false 70), S.next + 1⟩ (fO X)) := by
  rw [← hris];refine q46_of ⟨S.next, X.me, clock, rfl, aa _ _ _, ?_, h3, k2, Nat.lt_succ_self _, Nat.lt_succ_of_lt h.Bl, by omega⟩
  show (S.h.set _ _).get _ = _;rw [ae _ _ (by have := h.Bl; omega)]; exact h1
 obtain ⟨o1, o2⟩ := out46_ok ⟨S.h.set S.next (.row [.map X.me] 0 0 false 70), S.next + 1⟩ (fO X);obtain ⟨r, U, hr⟩ : ∃ r U, nH ⟨S.h.set S.next (.row [.map X.me] 0 0 false 70), S.next + 1⟩ (fO X) = (r, U) := ⟨_, _, rfl⟩;rw [hr] at hq o1 o2;have e2 := fun Q => iU (Q := Q) get46 (EI 46) hq o1.np
 have cr : Sub S U := (cS (S := S) (o := .row [.map X.me] 0 0 false 70)).trans o2;refine cv (EI _) (pr1 _ rfl) o_fn17 rfl o_ok17 (by simp) fun F hn s0 => ?_
 simp [s0, nS, jo h, h.x, e1, e2, o1.np];exact ⟨o1, cr⟩
theorem vt {n : Nat} : n ∈ fO X ↔ ∃ e, e ∈ X.eb ∧ e.n = n := by
 unfold fO;rw [List.mem_mergeSort, List.mem_map]
theorem yF (h : bL S X P) : (fO X).Pairwise (· < ·) := by
 have h1 : (fO X).Pairwise (· ≤ ·) := by
  have := List.pairwise_mergeSort (le := fun a b : Nat => decide (a ≤ b)) (fun a b c h1 h2 => by simp only [decide_eq_true_eq] at *; omega) (fun a b => by simp only [Bool.or_eq_true, decide_eq_true_eq]; omega) (X.eb.map Ev.n)
  exact this.imp fun h => by simpa using h
 have h2 : (fO X).Nodup := by
  unfold fO;rw [(List.mergeSort_perm _ _).nodup_iff];exact List.pairwise_map.2 h.evk
 exact (h1.and h2).imp fun ⟨a, b⟩ => by omega
end
theorem sI : ∀ L : List ef, cP (bQ 2) (L.flatMap bB) = true := fun L => by
 rw [ins.vZ];intro x hx;obtain ⟨e, _, he⟩ := List.mem_flatMap.1 hx;simp only [bB, aS, List.cons_append, List.nil_append, List.mem_cons, List.not_mem_nil, or_false] at he;rcases he with rfl | rfl | rfl | rfl | rfl <;> rfl
theorem fits48 {n : Nat} (h : n ≤ 4194304) : fits n 48 = true := by
 unfold fits;simp only [cg, Bool.and_eq_true, decide_eq_true_eq];have : n.mul 48 = n * 48 := rfl
 constructor <;> omega
theorem De {α : Type} {c : Bool} {x : Option α} (h : c = true) : cond c x none = x := by rw [h]; rfl
theorem insA_mk {S : AS} {id g n i bid low : Nat} {L : List ef} {one : ef} (h1 : S.h.get id = some (.row (L.flatMap bB) low g false 80)) (h2 : S.h.get bid = some (.row (bB one) 0 0 false 80)) (hn : L.length = n) (hi : i ≤ n) (h0 : 0 < n) (hf : n + 1 ≤ 4194304) (bO : bid ≠ id) :
  ins.insA S id g 0 n (n * 5) i bid = some (.slice id (g + 1) 0 (n + 1) ((n + 1) * 5) 5 none, ⟨S.h.set id (.row ((L.take i ++ one :: L.drop i).flatMap bB) (g + 1) (g + 1) false 80), S.next⟩) := by
 have hl := my bF L;rw [hn] at hl;have hx : (bB one).length = 5 := rfl;have e1 : (List.take (i * 5) (L.flatMap bB)) ++ (bB one ++ List.drop (i * 5) (L.flatMap bB)) = (L.take i ++ one :: L.drop i).flatMap bB := by
  rw [mw bF, mz bF, List.flatMap_append, List.flatMap_cons]
 have hfx : cP (bQ 2) (bB one) = true := by have := sI [one]; simpa using this
 unfold ins.insA;simp only [h1, h2, aK, cg, fI, aU, bX, ck, bd];refine (De ?_).trans ?_
 ·simp [hl, hi, h0, hx, bO, sI, hfx, fits48 hf]
 have e2 : Nat.mul i 5 = i * 5 := rfl;rw [e2, e1]
 rfl
theorem insN_mk {S : AS} {bid : Nat} {one : ef} (h2 : S.h.get bid = some (.row (bB one) 0 0 false 80)) : ins.insN S bid = some (.slice S.next 0 0 1 5 5 none, ⟨S.h.set S.next (.row (bB one) 0 0 false 80), S.next + 1⟩) := by
 have hx : (bB one).length = 5 := rfl;unfold ins.insN;simp only [h2, aK, aU, hx]
 rfl
theorem delA_mk {S : AS} {id g n i low : Nat} {L : List ef} (h1 : S.h.get id = some (.row (L.flatMap bB) low g false 80)) (hn : L.length = n) (hi : i < n) (hf : n ≤ 4194304) :
  ins.delA S id g 0 n (n * 5) i (i + 1) = some (.slice id (g + 1) 0 (n - 1) ((n - 1) * 5) 5 none, ⟨S.h.set id (.row ((L.take i ++ L.drop (i + 1)).flatMap bB) (g + 1) (g + 1) false 80), S.next⟩) := by
 have hl := my bF L;rw [hn] at hl;have e1 : (List.take (i * 5) (L.flatMap bB)) ++ List.drop ((i + 1) * 5) (L.flatMap bB) = (L.take i ++ L.drop (i + 1)).flatMap bB := by
  rw [mw bF, mz bF, List.flatMap_append]
 unfold ins.delA;simp only [h1, aK, cg, fI, aU, bX, ck, bd];refine (De ?_).trans ?_
 ·simp [hl, hi, sI, fits48 hf]
 have e2 : Nat.mul i 5 = i * 5 := rfl;have e3 : Nat.mul (Nat.succ i) 5 = (i + 1) * 5 := rfl;rw [e2, e3, e1]
 rfl
def C5 (X : XI) (s : List Nat) : AV := (nI (X.fC.map wW) s).getD .aH
def gX (X : XI) (s : List Nat) : List ef := ((X.fC.find? fun m => decide (m.name = s)).map Nm.L).getD []
section
variable {S : AS} {X : XI} {P : List Nat → ef → Prop}
theorem bL.ent (h : bL S X P) (s : List Nat) : (∃ m, m ∈ X.fC ∧ m.name = s ∧ C5 X s = m.v ∧ gX X s = m.L) ∨ (C5 X s = .aH ∧ gX X s = [] ∧ (∀ m, m ∈ X.fC → m.name ≠ s) ∧ ∀ e, ¬ P s e) := by
 unfold C5 gX;rw [Ae]
 cases hf : X.fC.find? fun m => decide (m.name = s) with
 | some m =>
  have h1 := List.find?_some hf;exact .inl ⟨m, List.mem_of_find?_eq_some hf, by simpa using h1, rfl, rfl⟩
 | none =>
  have h1 := List.find?_eq_none.1 hf;refine .inr ⟨rfl, rfl, fun m hm e => by simpa [e] using h1 m hm, fun e hp => ?_⟩
  obtain ⟨m, hm, e⟩ := h.all s e hp;simpa [e] using h1 m hm
theorem bL.lookup (h : bL S X P) (s : List Nat) : kr C1 S 71 (.map X.mn) (.str s) false = some (C5 X s) := by
 rw [lA (cx := C1) (t := 71) (k := s) (ok := false) pO pR (h.nm.mp h.lmn)];unfold C5
 cases nI (X.fC.map wW) s <;> rfl
theorem bL.jy (h : bL S X P) (s : List Nat) : Sl S (C5 X s) 5 ((gX X s).flatMap bB) := by
 rcases h.ent s with ⟨m, hm, _, e1, e2⟩ | ⟨e1, e2, _⟩
 ·rw [e1, e2]; exact h.sl hm
 ·rw [e1, e2]; exact Sl.nil
theorem bL.entR (h : bL S X P) (s : List Nat) : jz (gX X s) := by
 rcases h.ent s with ⟨m, hm, _, e1, e2⟩ | ⟨e1, e2, _⟩
 ·rw [e2]; exact h.yw m hm
 ·rw [e2]; exact List.Pairwise.nil
theorem bL.xG (h : bL S X P) (s : List Nat) (e : ef) : e ∈ gX X s ↔ P s e := by
 rcases h.ent s with ⟨m, hm, hn, e1, e2⟩ | ⟨e1, e2, _, h3⟩
 ·rw [e2, ← hn]; exact h.mem m hm e
 ·rw [e2]
  exact ⟨fun h => (by cases h), fun hp => absurd hp (h3 e)⟩
theorem bL.nU (h : bL S X P) (s : List Nat) : (gX X s).length ≤ X.k := by
 rcases h.ent s with ⟨m, hm, _, e1, e2⟩ | ⟨e1, e2, _⟩
 ·rw [e2]; exact h.len m hm
 ·rw [e2]; exact Nat.zero_le _
def entK (X : XI) (s : List Nat) (one : ef) : Nat := fK (fun x => decide (0 ≤ iN x one)) (gX X s)
theorem bL.wc (h : bL S X P) (s : List Nat) (one : ef) : Cut (fun x => iN x one) (gX X s) (entK X s one) := (h.entR s).cut one
theorem ordE_zero {a b : ef} (h : iN a b = 0) : a.n = b.n := by
 unfold iN at h
 split at h
 ·have := (cmpI_zero _ _).1 h; omega
 ·rename_i hh; exact absurd h hh
theorem rises_ins {L : List ef} {one : ef} {k : Nat} (h : jz L) (hc : Cut (fun x => iN x one) L k) (hn : ∀ e, e ∈ L → e.n ≠ one.n) : jz (L.take k ++ one :: L.drop k) := by
 have h1 : ∀ x, x ∈ L.take k → iN x one < 0 := fun x hx => by
  obtain ⟨i, hi, e⟩ := List.mem_take_iff_getElem.1 hx;exact (hc.lt i x (by rw [List.getElem?_eq_getElem (by omega), e])).2 (by omega)
 have h2 : ∀ x, x ∈ L.drop k → iN one x < 0 := fun x hx => by
  obtain ⟨i, hi, e⟩ := List.mem_drop_iff_getElem.1 hx;have h3 : ¬ iN x one < 0 := fun hh => by
   have := (hc.lt (i + k) x (by rw [List.getElem?_eq_getElem (by omega)]; exact congrArg some (by simpa [Nat.add_comm] using e))).1 hh
   omega
  have h4 : iN x one ≠ 0 := fun e0 => hn x (List.mem_of_mem_drop hx) (ordE_zero e0)
  have := jX.xY x one;have := jX.range x one;omega
 unfold jz at h ⊢;have h0 := h;rw [← List.take_append_drop k L, List.pairwise_append] at h0;rw [List.pairwise_append];refine ⟨h0.1, List.pairwise_cons.2 ⟨h2, h0.2.1⟩, fun a ha b hb => ?_⟩
 rcases List.mem_cons.1 hb with rfl | hb
 ·exact h1 a ha
 ·exact h0.2.2 a ha b hb
def yc (P : List Nat → ef → Prop) (s : List Nat) (one : ef) (s' : List Nat) (e : ef) : Prop := P s' e ∨ (s' = s ∧ e = one)
def tA (P : List Nat → ef → Prop) (s : List Nat) (one : ef) (s' : List Nat) (e : ef) : Prop := P s' e ∧ ¬ (s' = s ∧ e = one)
structure Same (X X' : XI) (k : Nat) : Prop where
 x : X'.x = X.x
 me : X'.me = X.me
 mn : X'.mn = X.mn
 eb : X'.eb = X.eb
 k : X'.k = k
theorem rh {X : XI} {m : Nm} {k n : Nat} (hn : X.fC.Pairwise fun a b => a.name ≠ b.name) (bY : (∃ m0, m0 ∈ X.fC ∧ m0.name = m.name ∧ m0.id = m.id) ∨ n ≤ m.id) : ∀ id, XI.fm { X with fC := mY X.fC m, k := k } id → X.fm id ∨ n ≤ id := by
 rintro id (e | e | e | ⟨a, ha, e⟩ | ⟨a, ha, e⟩)
 ·exact .inl (.inl e)
 ·exact .inl (.inr (.inl e))
 ·exact .inl (.inr (.inr (.inl e)))
 ·rcases (ig hn a).1 ha with rfl | ⟨ha, _⟩
  ·rcases bY with ⟨m0, h0, _, h2⟩ | h2
   ·exact .inl (.inr (.inr (.inr (.inl ⟨m0, h0, by rw [e, h2]⟩))))
   ·exact .inr (by rw [e]; exact h2)
  ·exact .inl (.inr (.inr (.inr (.inl ⟨a, ha, e⟩))))
 ·exact .inl (.inr (.inr (.inr (.inr ⟨a, ha, e⟩))))
theorem zE {X : XI} {m : Nm} {k n : Nat} (hn : X.fC.Pairwise fun a b => a.name ≠ b.name) (bY : (∃ m0, m0 ∈ X.fC ∧ m0.name = m.name ∧ m0.id = m.id) ∨ n ≤ m.id) : ∀ id, XI.wf { X with fC := mY X.fC m, k := k } id → X.wf id ∨ n ≤ id := by
 rintro id (e | e | ⟨a, ha, e⟩)
 ·exact .inl (.inl e)
 ·exact .inl (.inr (.inl e))
 ·rcases (ig hn a).1 ha with rfl | ⟨ha, _⟩
  ·rcases bY with ⟨m0, h0, _, h2⟩ | h2
   ·exact .inl (.inr (.inr ⟨m0, h0, by rw [e, h2]⟩))
   ·exact .inr (by rw [e]; exact h2)
  ·exact .inl (.inr (.inr ⟨a, ha, e⟩))
theorem ins_step (h : bL S X P) (bO : eP X) (s : List Nat) (one : ef) (hP : ∀ e, P s e → e.n ≠ one.n) (hk : X.k < 1048576) {bid : Nat} (hb : S.h.get bid = some (.row (bB one) 0 0 false 80)) (hbX : ¬ X.fm bid) (hbl : bid < S.next) :
  ∃ r W T X', ins.q31 [C5 X s, .int .i64 (entK X s one : Int), .slice bid 0 0 1 5 5 (some 1)] S = some (r, W) ∧ bz r = false ∧ okW r = true ∧ cellsOf r = some [r] ∧ (∀ id, id < S.next → (id = X.x ∨ ¬ X.wf id) → W.h.get id = S.h.get id) ∧ jC C1 W 71 (.map X.mn) (.str s) r = some (.undef, T) ∧
   bL T X' (yc P s one) ∧ eP X' ∧ Same X X' (X.k + 1) ∧ Step S T X X' := by
 have hcut := h.wc s one;have hlen := h.nU s;have hris := h.entR s;have dj := h.xG s;have hkle := hcut.le;have hw : ∀ s' e, s' ≠ s → (yc P s one s' e ↔ P s' e) := fun s' e hs => ⟨fun hp => hp.elim (fun h => h) (fun h => absurd h.1 hs), .inl⟩
 generalize hL : gX X s = L at *;generalize hK : entK X s one = k at *;have hrn := rises_ins hris hcut fun e he => hP e ((dj e).1 he)
 have hmn : ∀ e, e ∈ L.take k ++ one :: L.drop k ↔ yc P s one s e := fun e => by
  have h1 : e ∈ L ↔ e ∈ L.take k ∨ e ∈ L.drop k := by rw [← List.mem_append, List.take_append_drop]
  unfold yc;rw [← dj e, h1];simp only [List.mem_append, List.mem_cons, true_and]
  constructor
  ·rintro (h | h | h)
   ·exact .inl (.inl h)
   ·exact .inr h
   ·exact .inl (.inr h)
  ·rintro ((h | h) | h)
   ·exact .inl h
   ·exact .inr (.inr h)
   ·exact .inr (.inl h)
 have hll : (L.take k ++ one :: L.drop k).length = L.length + 1 := by
  rw [List.length_append, List.length_cons, List.length_take, List.length_drop]; omega
 rcases h.ent s with ⟨m, hm, hn, e1, e2⟩ | ⟨e1, e2, h3, h4⟩
 ·rw [hL] at e2
  subst e2;obtain ⟨qW, low, hlow, fw⟩ := h.row m hm;obtain ⟨n1, n2, n3⟩ := h.nid m hm;have hbm : bid ≠ m.id := fun e => hbX (.inr (.inr (.inr (.inl ⟨m, hm, e⟩))))
  have CH : 0 < m.L.length := List.length_pos_iff.2 (bO m hm);have hq := insA_mk (id := m.id) (g := m.g) (i := k) fw hb rfl hkle CH (by omega) hbm
  obtain ⟨W, hW⟩ : ∃ W : AS, W = ⟨S.h.set m.id (.row ((m.L.take k ++ one :: m.L.drop k).flatMap bB) (m.g + 1) (m.g + 1) false 80), S.next⟩ := ⟨_, rfl⟩;rw [← hW] at hq;have hWg : ∀ id, id ≠ m.id → W.h.get id = S.h.get id := fun id hi => by rw [hW]; exact ae _ _ hi
  have hWm : W.h.get m.id = some (.row ((m.L.take k ++ one :: m.L.drop k).flatMap bB) (m.g + 1) (m.g + 1) false 80) := by rw [hW]; exact aa _ _ _
  have hWn : W.next = S.next := by rw [hW]
  obtain ⟨T, u1, u2, u3, u4⟩ := jO (cx := C1) (t := 71) (v := .slice m.id (m.g + 1) 0 (m.L.length + 1) ((m.L.length + 1) * 5) 5 none) (k := s) pO pR (h.nm.bR (T := W) (hWg _ (fun e => n3 e.symm)))
  have hmv : (⟨s, m.id, m.g + 1, m.L.take k ++ one :: m.L.drop k⟩ : Nm).v = .slice m.id (m.g + 1) 0 (m.L.length + 1) ((m.L.length + 1) * 5) 5 none := by
   simp only [Nm.v, hll]
  have sB : (∃ m0, m0 ∈ X.fC ∧ m0.name = (⟨s, m.id, m.g + 1, m.L.take k ++ one :: m.L.drop k⟩ : Nm).name ∧ m0.id = (⟨s, m.id, m.g + 1, m.L.take k ++ one :: m.L.drop k⟩ : Nm).id) ∨ S.next ≤ (⟨s, m.id, m.g + 1, m.L.take k ++ one :: m.L.drop k⟩ : Nm).id := .inl ⟨m, hm, hn, rfl⟩;refine ⟨_, W, T, { X with fC := mY X.fC ⟨s, m.id, m.g + 1, m.L.take k ++ one :: m.L.drop k⟩, k := X.k + 1 }, ?_, rfl, rfl, rfl, fun id _ hh => hWg id (fun e => hh.elim (fun h => n1 (e.symm.trans h)) fun h => h (.inr (.inr ⟨m, hm, e⟩))), u1, ?_, ?_, ⟨rfl, rfl, rfl, rfl, rfl⟩, ⟨⟨fun id bY hf => ?_, by rw [u4, hWn]; exact Nat.le_refl _⟩, zE h.tv sB, rh h.tv sB⟩⟩
  ·rw [e1]; exact hq
  ·refine h.put (m := ⟨s, m.id, m.g + 1, m.L.take k ++ one :: m.L.drop k⟩) sB (by rw [u4, hWn]; exact qW) (by rw [u4, hWn]; exact Nat.le_refl _) (fun id _ h1 h2 => (u3 id h2).trans (hWg id h1)) ⟨m.g + 1, Nat.le_refl _, (u3 _ n3).trans hWm⟩ ?_ hrn hmn hw (Nat.le_succ _) (by show (m.L.take k ++ one :: m.L.drop k).length ≤ _; omega)
   rw [qK, hmv]; exact u2
  ·intro a ha
   rcases (ig h.tv a).1 ha with rfl | ⟨ha, _⟩
   ·simp
   ·exact bO a ha
  ·rw [u3 id (fun e => hf (.inr (.inl e)))]
   exact hWg id (fun e => hf (.inr (.inr ⟨m, hm, e⟩)))
 ·rw [hL] at e2
  subst e2;have hk0 : k = 0 := by simp at hkle; exact hkle
  subst hk0;have hq := insN_mk hb;obtain ⟨W, hW⟩ : ∃ W : AS, W = ⟨S.h.set S.next (.row (bB one) 0 0 false 80), S.next + 1⟩ := ⟨_, rfl⟩;rw [← hW] at hq;have hlmn := h.lmn;have hWg : ∀ id, id ≠ S.next → W.h.get id = S.h.get id := fun id hi => by rw [hW]; exact ae _ _ hi
  have hWm : W.h.get S.next = some (.row (bB one) 0 0 false 80) := by rw [hW]; exact aa _ _ _
  have hWn : W.next = S.next + 1 := by rw [hW]
  obtain ⟨T, u1, u2, u3, u4⟩ := jO (cx := C1) (t := 71) (v := .slice S.next 0 0 1 5 5 none) (k := s) pO pR (h.nm.bR (T := W) (hWg _ (by omega)))
  have sB : (∃ m0, m0 ∈ X.fC ∧ m0.name = (⟨s, S.next, 0, [one]⟩ : Nm).name ∧ m0.id = (⟨s, S.next, 0, [one]⟩ : Nm).id) ∨ S.next ≤ (⟨s, S.next, 0, [one]⟩ : Nm).id := .inr (Nat.le_refl _);refine ⟨_, W, T, { X with fC := mY X.fC ⟨s, S.next, 0, [one]⟩, k := X.k + 1 }, ?_, rfl, rfl, rfl, fun id aL _ => hWg id (by omega), u1, ?_, ?_, ⟨rfl, rfl, rfl, rfl, rfl⟩, ⟨⟨fun id bY hf => ?_, by rw [u4, hWn]; exact Nat.le_succ _⟩, zE h.tv sB, rh h.tv sB⟩⟩
  ·rw [e1]; exact hq
  ·refine h.put (m := ⟨s, S.next, 0, [one]⟩) sB (by rw [u4, hWn]; exact Nat.lt_succ_self _) (by rw [u4, hWn]; exact Nat.le_succ _) (fun id _ h1 h2 => (u3 id h2).trans (hWg id h1)) ⟨0, Nat.le_refl _, ?_⟩ ?_ hrn hmn hw (Nat.le_succ _) (by show 1 ≤ _; omega)
   ·show T.h.get S.next = _
    rw [u3 _ (by omega), hWm]
    simp
   ·rw [qK]; exact u2
  ·intro a ha
   rcases (ig h.tv a).1 ha with rfl | ⟨ha, _⟩
   ·simp
   ·exact bO a ha
  ·rw [u3 id (fun e => hf (.inr (.inl e)))]
   exact hWg id (by omega)
theorem cut_at {L : List ef} {one : ef} {k : Nat} (h : jz L) (hc : Cut (fun x => iN x one) L k) (hm : one ∈ L) : L[k]? = some one := by
 obtain ⟨j, hj, e⟩ := List.getElem_of_mem hm;have hx : L[j]? = some one := by rw [List.getElem?_eq_getElem hj, e]
 have h0 := jX.self one;have h1 : ¬ j < k := fun aL => by have := (hc.lt j one hx).2 aL; omega
 by_cases hjk : k = j
 ·rw [hjk]; exact hx
 ·have DR : k < L.length := by omega
  have h2 := List.pairwise_iff_getElem.1 h k j DR hj (by omega)
  rw [e] at h2;have := (hc.lt k L[k] (List.getElem?_eq_getElem DR)).1 h2;omega
theorem rises_del {L : List ef} {one : ef} {k : Nat} (h : jz L) (hx : L[k]? = some one) : jz (L.take k ++ L.drop (k + 1)) ∧ (∀ e, e ∈ L.take k ++ L.drop (k + 1) ↔ e ∈ L ∧ e ≠ one) ∧ (L.take k ++ L.drop (k + 1)).length = L.length - 1 := by
 obtain ⟨hk, e⟩ := List.getElem?_eq_some_iff.1 hx;have hL : L = L.take k ++ one :: L.drop (k + 1) := by
  have := List.take_append_drop k L;rw [List.drop_eq_getElem_cons hk, e] at this;exact this.symm
 have hp : (L.take k ++ one :: L.drop (k + 1)).Pairwise fun a b => iN a b < 0 := by rw [← hL]; exact h
 rw [List.pairwise_append] at hp;obtain ⟨p1, p2, p3⟩ := hp;obtain ⟨p4, p5⟩ := List.pairwise_cons.1 p2;have h0 := jX.self one;refine ⟨?_, fun e => ?_, ?_⟩
 ·unfold jz
  rw [List.pairwise_append];exact ⟨p1, p5, fun a ha b hb => p3 a ha b (List.mem_cons_of_mem _ hb)⟩
 ·have hm : e ∈ L ↔ e ∈ L.take k ∨ e = one ∨ e ∈ L.drop (k + 1) := by
   conv => lhs; rw [hL]
   simp
  rw [hm, List.mem_append]
  constructor
  ·rintro (h | h)
   ·exact ⟨.inl h, fun e2 => by have := p3 e h one (List.mem_cons_self ..); rw [e2] at this; omega⟩
   ·exact ⟨.inr (.inr h), fun e2 => by have := p4 e h; rw [e2] at this; omega⟩
  ·rintro ⟨h | h | h, h2⟩
   ·exact .inl h
   ·exact absurd h h2
   ·exact .inr h
 ·rw [List.length_append, List.length_take, List.length_drop]; omega
theorem foot_drop {X : XI} {s : List Nat} {n : Nat} (hn : X.fC.Pairwise fun a b => a.name ≠ b.name) : ∀ id, XI.fm { X with fC := sT X.fC s } id → X.fm id ∨ n ≤ id := by
 rintro id (e | e | e | ⟨a, ha, e⟩ | ⟨a, ha, e⟩)
 ·exact .inl (.inl e)
 ·exact .inl (.inr (.inl e))
 ·exact .inl (.inr (.inr (.inl e)))
 ·exact .inl (.inr (.inr (.inr (.inl ⟨a, ((nJ hn a).1 ha).1, e⟩))))
 ·exact .inl (.inr (.inr (.inr (.inr ⟨a, ha, e⟩))))
theorem wf_drop {X : XI} {s : List Nat} (hn : X.fC.Pairwise fun a b => a.name ≠ b.name) : ∀ id, XI.wf { X with fC := sT X.fC s } id → X.wf id := by
 rintro id (e | e | ⟨a, ha, e⟩)
 ·exact .inl e
 ·exact .inr (.inl e)
 ·exact .inr (.inr ⟨a, ((nJ hn a).1 ha).1, e⟩)
theorem del_step (h : bL S X P) (bO : eP X) (s : List Nat) (one : ef) (hP : P s one) (hk : X.k ≤ 1048576) :
  ∃ r W T XM, ins.q34 [C5 X s, .int .i64 (entK X s one : Int), .int .i64 ((entK X s one + 1 : Nat) : Int)] S = some (r, W) ∧ bz r = false ∧ okW r = true ∧ cellsOf r = some [r] ∧ (∀ id, id < S.next → (id = X.x ∨ ¬ X.wf id) → W.h.get id = S.h.get id) ∧ jC C1 W 71 (.map X.mn) (.str s) r = some (.undef, T) ∧
   bL T XM (tA P s one) ∧ Same X XM X.k ∧ Step S T X XM ∧ ((gX X s).length ≠ 1 → eP XM) ∧
   ((gX X s).length = 1 → ∃ U X', mB C1 T 71 (.map X.mn) (.str s) = some (.undef, U) ∧ bL U X' (tA P s one) ∧ eP X' ∧ Same X X' X.k ∧ Step S U X X') := by
 have hcut := h.wc s one;have hlen := h.nU s;have hris := h.entR s;have dj := h.xG s;have hkle := hcut.le;have hw : ∀ s' e, s' ≠ s → (tA P s one s' e ↔ P s' e) := fun s' e hs => ⟨fun hp => hp.1, fun hp => ⟨hp, fun h => hs h.1⟩⟩
 generalize hL : gX X s = L at *;generalize hK : entK X s one = k at *;have xD := cut_at hris hcut ((dj one).2 hP);obtain ⟨hrn, hmd, hll⟩ := rises_del hris xD;have DR : k < L.length := (List.getElem?_eq_some_iff.1 xD).1;have hmn : ∀ e, e ∈ L.take k ++ L.drop (k + 1) ↔ tA P s one s e := fun e => by
  rw [hmd e, dj e];exact ⟨fun hh => ⟨hh.1, fun h2 => hh.2 h2.2⟩, fun hh => ⟨hh.1, fun h2 => hh.2 ⟨rfl, h2⟩⟩⟩
 rcases h.ent s with ⟨m, hm, hn, e1, e2⟩ | ⟨_, _, _, h4⟩
 ·rw [hL] at e2
  subst e2;obtain ⟨qW, low, hlow, fw⟩ := h.row m hm;obtain ⟨n1, n2, n3⟩ := h.nid m hm;have hq := delA_mk (id := m.id) (g := m.g) (i := k) fw rfl DR (by omega)
  obtain ⟨W, hW⟩ : ∃ W : AS, W = ⟨S.h.set m.id (.row ((m.L.take k ++ m.L.drop (k + 1)).flatMap bB) (m.g + 1) (m.g + 1) false 80), S.next⟩ := ⟨_, rfl⟩;rw [← hW] at hq;have hWg : ∀ id, id ≠ m.id → W.h.get id = S.h.get id := fun id hi => by rw [hW]; exact ae _ _ hi
  have hWm : W.h.get m.id = some (.row ((m.L.take k ++ m.L.drop (k + 1)).flatMap bB) (m.g + 1) (m.g + 1) false 80) := by rw [hW]; exact aa _ _ _
  have hWn : W.next = S.next := by rw [hW]
  obtain ⟨T, u1, u2, u3, u4⟩ := jO (cx := C1) (t := 71) (v := .slice m.id (m.g + 1) 0 (m.L.length - 1) ((m.L.length - 1) * 5) 5 none) (k := s) pO pR (h.nm.bR (T := W) (hWg _ (fun e => n3 e.symm)))
  have hmv : (⟨s, m.id, m.g + 1, m.L.take k ++ m.L.drop (k + 1)⟩ : Nm).v = .slice m.id (m.g + 1) 0 (m.L.length - 1) ((m.L.length - 1) * 5) 5 none := by
   simp only [Nm.v, hll]
  have sB : (∃ m0, m0 ∈ X.fC ∧ m0.name = (⟨s, m.id, m.g + 1, m.L.take k ++ m.L.drop (k + 1)⟩ : Nm).name ∧ m0.id = (⟨s, m.id, m.g + 1, m.L.take k ++ m.L.drop (k + 1)⟩ : Nm).id) ∨ S.next ≤ (⟨s, m.id, m.g + 1, m.L.take k ++ m.L.drop (k + 1)⟩ : Nm).id := .inl ⟨m, hm, hn, rfl⟩;have hTn : S.next ≤ T.next := by rw [u4, hWn]; exact Nat.le_refl _
  have hI : bL T { X with fC := mY X.fC ⟨s, m.id, m.g + 1, m.L.take k ++ m.L.drop (k + 1)⟩, k := X.k } (tA P s one) := by
   refine h.put (m := ⟨s, m.id, m.g + 1, m.L.take k ++ m.L.drop (k + 1)⟩) sB (by rw [u4, hWn]; exact qW) hTn (fun id _ h1 h2 => (u3 id h2).trans (hWg id h1)) ⟨m.g + 1, Nat.le_refl _, (u3 _ n3).trans hWm⟩ ?_ hrn hmn hw (Nat.le_refl _) (by show (m.L.take k ++ m.L.drop (k + 1)).length ≤ _; omega)
   rw [qK, hmv]; exact u2
  have nM : eS X.wf S T := ⟨fun id bY hf => by
   rw [u3 id (fun e => hf (.inr (.inl e)))]
   exact hWg id (fun e => hf (.inr (.inr ⟨m, hm, e⟩))), hTn⟩
  refine ⟨_, W, T, { X with fC := mY X.fC ⟨s, m.id, m.g + 1, m.L.take k ++ m.L.drop (k + 1)⟩, k := X.k }, ?_, rfl, rfl, rfl, fun id _ hh => hWg id (fun e => hh.elim (fun h => n1 (e.symm.trans h)) fun h => h (.inr (.inr ⟨m, hm, e⟩))), u1, hI, ⟨rfl, rfl, rfl, rfl, rfl⟩, ⟨nM, zE h.tv sB, rh h.tv sB⟩, fun h1 => ?_, fun h1 => ?_⟩
  ·rw [e1]; exact hq
  ·intro a ha
   rcases (ig h.tv a).1 ha with rfl | ⟨ha, _⟩
   ·intro e0
    have : (m.L.take k ++ m.L.drop (k + 1)).length = 0 := by
     have e0' : m.L.take k ++ m.L.drop (k + 1) = [] := e0;rw [e0']; rfl
    omega
   ·exact bO a ha
  ·obtain ⟨U, d1, d2, d3, d4⟩ := wj (cx := C1) (t := 71) (k := s) pO pR hI.nm
   have hnil : m.L.take k ++ m.L.drop (k + 1) = [] := List.length_eq_zero_iff.1 (by omega)
   have hD := hI.drop (T := U) (s := s) (by rw [d4]; exact Nat.le_refl _) (fun id _ h2 => d3 id h2) (by rw [Db]; exact d2) (fun e hp => by
    have := (hmn e).2 hp;rw [hnil] at this
    cases this)
   refine ⟨U, _, d1, hD, ?_, ⟨rfl, rfl, rfl, rfl, rfl⟩, ⟨nM.trans ⟨fun id h1 h2 => d3 id (fun e => h2 (.inr (.inl e))), by rw [d4]; exact Nat.le_refl _⟩, fun id hf => zE h.tv sB id (wf_drop hI.tv id hf), fun id hf => ?_⟩⟩
   ·intro a ha
    have ha2 := (nJ hI.tv a).1 ha;rcases (ig h.tv a).1 ha2.1 with rfl | ⟨ha, _⟩
    ·exact absurd rfl ha2.2
    ·exact bO a ha
   ·rcases foot_drop (n := S.next) hI.tv id hf with h1 | h1
    ·exact rh h.tv sB id h1
    ·exact .inr h1
 ·exact absurd hP (h4 one)
end
theorem okAt_of {l : List dD} (h : xm l = true) {i : Nat} (hi : i < l.length) : kl l i = true := by
 unfold xm at h;rw [List.all_eq_true] at h;exact h i (List.mem_range.2 hi)
theorem pQ {l : List dD} (h : xm l = true) : l.Pairwise fun a b => gq a.name b.name = true := by
 rw [List.pairwise_iff_getElem];have step : ∀ j (hj : j + 1 < l.length), gq l[j].name l[j + 1].name = true := fun j hj => by
  have h1 := okAt_of h hj;have hx : l[j + 1]? = some l[j + 1] := List.getElem?_eq_getElem hj;have hy : l[j]? = some l[j] := List.getElem?_eq_getElem (by omega)
  rw [ET hx hy] at h1;simp only [Bool.and_eq_true] at h1;exact h1.2
 intro i j hi hj fW;obtain ⟨d, rfl⟩ : ∃ d, j = i + 1 + d := ⟨j - (i + 1), by omega⟩
 clear fW
 induction d with
 | zero => exact step i hj
 | succ d ih => exact sg _ _ _ (ih (by omega)) (step (i + 1 + d) hj)
theorem Cl {l : List dD} (h : xm l = true) {i : Nat} {a b : dD} (ha : l[i]? = some a) (hb : b ∈ l.take i) : b.name ≠ a.name := by
 obtain ⟨hi, rfl⟩ := List.getElem?_eq_some_iff.1 ha;obtain ⟨j, hj, rfl⟩ := List.mem_take_iff_getElem.1 hb;have := List.pairwise_iff_getElem.1 (pQ h) j i (by omega) hi (by omega)
 intro e;rw [e, oE] at this
 cases this
theorem uJ {key : List Nat} {l : List dD} (h : ec key l = true) : xm l = true ∧ l.length ≤ 8 := by
 unfold ec at h;simp only [Bool.and_eq_true, decide_eq_true_eq] at h;exact ⟨h.1.1, h.2⟩
def tu (X : XI) (n : Nat) (l : List dD) (s : List Nat) (e : ef) : Prop := na X s e ∨ (e.n = n ∧ (⟨s, e.v⟩ : dD) ∈ l)
def addH (S : AS) (X : XI) (n : Nat) (ev : Ev) (u : AV) (k : Nat) (F' : Fr) (S' : AS) : Prop :=
 ∃ (i : Nat) (Y : XI), bL S' Y (tu X n (ev.ar.take i)) ∧ eP Y ∧ Y.eb = X.eb ++ [ev] ∧ Y.x = X.x ∧ Y.k ≤ X.k + 1 + i ∧ Step S S' X Y ∧
  sl F' 0 = .ptr X.x 0 0 2 ∧ sl F' 1 = .int .u64 (n : Int) ∧ sl F' 44 = u ∧ sl F' 45 = .int .i64 (ev.ar.length : Int) ∧ sl F' 46 = .int .i64 (i : Int) ∧ i ≤ ev.ar.length ∧ k = ev.ar.length - i ∧ F'.n = 79
theorem addH_mk {S : AS} {X : XI} {n : Nat} {ev : Ev} {u : AV} {k : Nat} {F' : Fr} {S' : AS} (i : Nat) (Y : XI) (h1 : bL S' Y (tu X n (ev.ar.take i))) (h2 : eP Y) (h3 : Y.eb = X.eb ++ [ev]) (h4 : Y.x = X.x) (h5 : Y.k ≤ X.k + 1 + i) (h6 : Step S S' X Y)
  (h7 : sl F' 0 = .ptr X.x 0 0 2) (h8 : sl F' 1 = .int .u64 (n : Int)) (h9 : sl F' 44 = u) (qA : sl F' 45 = .int .i64 (ev.ar.length : Int)) (rf : sl F' 46 = .int .i64 (i : Int)) (DT : i ≤ ev.ar.length) (h13 : k = ev.ar.length - i) (h14 : F'.n = 79) : addH S X n ev u k F' S' :=
 ⟨i, Y, h1, h2, h3, h4, h5, h6, h7, h8, h9, qA, rf, DT, h13, h14⟩
theorem nt9 : Tryz.f9.ntmps = 79 := by kernel_rfl
theorem Step.sl {S T : AS} {X Y : XI} {u : AV} {sz : Nat} {cs : List AV} (h : Step S T X Y) (hu : Sl S u sz cs) (hx : ∀ id, cJ u = id + 1 → ¬ X.wf id) : Sl T u sz cs :=
 hu.bR (fun id hb => h.bm.h id (by have := hu.old; omega) (hx id hb)) h.bm.next
structure Added (S T : AS) (X X' : XI) (n : Nat) (key : List Nat) (ar : List dD) (r : AV) : Prop where
 ix : bL T X' (na X')
 ne : eP X'
 step : Step S T X X'
 x : X'.x = X.x
 k : X'.k ≤ X.k + 9
 Bt : (ec key ar = false ∧ r = .int .i64 30 ∧ X'.eb = X.eb) ∨ (ec key ar = true ∧ (∃ e, e ∈ X.eb ∧ e.n = n) ∧ r = .int .i64 9 ∧ X'.eb = X.eb) ∨
  (ec key ar = true ∧ (∀ e, e ∈ X.eb → e.n ≠ n) ∧ r = .int .i64 0 ∧ ∃ u', X'.eb = X.eb ++ [⟨n, key, u', ar⟩])
section
variable {S : AS} {X : XI}
set_option maxRecDepth 20000 in
set_option maxHeartbeats 2000000 in
theorem add9 {n : Nat} {key : List Nat} {u : AV} {ar : List dD} (h : bL S X (na X)) (bO : eP X) (hu : eF S u ar) (hux : ∀ id, cJ u = id + 1 → ¬ X.wf id) (hk : X.k + 100 ≤ 1048576) :
  ai C1 9 [.ptr X.x 0 0 2, .int .u64 (n : Int), .agg [.str key, u]] S fun r T => ∃ X', Added S T X X' n key ar r := by
 have fp : Sub S ⟨S.h.set S.next (.row [.str key, u] 0 0 false 33), S.next + 1⟩ := cS;have h1 := h.sub fp;obtain ⟨r1, T1, ⟨rfl, iv⟩, e1⟩ := (D2 (evMay10 (key := key) (hu.sub fp))).ex;have lU := fp.trans iv;have h2 := h.sub lU;have gb : T1.h.get S.next = some (.row [.str key, u] 0 0 false 33) := by rw [iv.h _ (Nat.lt_succ_self _)]; exact aa _ _ _
 have u1 := hu.sl.sl;have u2 := hu.sl.aO bG (by omega)
 have hT1n : S.next + 1 ≤ T1.next := iv.next;have hlx := h.lx;refine ka (EI _) (pr1 _ rfl) o_fn9 rfl o_ok9 (by simp) fun F hn s0 s1 s2 => ?_
 rw [nt9] at hn
 cases hm : ec key ar with
 | false =>
  rw [hm] at e1;simp [s0, s1, s2, nS, jo h1, hu.sl.cells, e1];exact ⟨X, h2, bO, Step.vq lU, rfl, by omega, .inl ⟨hm, rfl, rfl⟩⟩
 | true =>
  rw [hm] at e1;obtain ⟨qW, hm8⟩ := uJ hm;have lk := lA (cx := C1) (t := 70) (k := n) (ok := true) vr vI (h2.em.mp h2.Bl);have xu := h2.x;rcases h2.ea n with ⟨e, he, hen, hg⟩ | ⟨hg, jq⟩
  ·rw [hg] at lk
   simp [Ev.v] at lk;have kz : ∀ e, e ∈ X.eb → cellsOf e.u = some [e.u] := fun e he => (h.kK e he).sl.cells
   have pE : Sub S ⟨(T1.h.set T1.next (.row [.str [], .aH] 0 0 false 33)).set T1.next (.row [.str e.key, e.u] 0 0 false 33), T1.next + 1⟩ := lU.trans jf;simp [s0, s1, s2, nS, jo h1, hu.sl.cells, e1, xu, lk, kz e he];exact ⟨X, h.sub pE, bO, Step.vq pE, rfl, by omega, .inr (.inl ⟨hm, ⟨e, he, hen⟩, rfl, rfl⟩)⟩
  ·rw [hg] at lk
   simp at lk;have pE : Sub T1 ⟨(T1.h.set T1.next (.row [.str [], .aH] 0 0 false 33)).set T1.next (.row [.str [], .aH] 0 0 false 33), T1.next + 1⟩ := jf;have h3 := h2.sub pE;have hx3 := h3.x;have gb3 : (⟨(T1.h.set T1.next (.row [.str [], .aH] 0 0 false 33)).set T1.next (.row [.str [], .aH] 0 0 false 33), T1.next + 1⟩ : AS).h.get S.next = some (.row [.str key, u] 0 0 false 33) := by rw [pE.h _ (by omega)]; exact gb
   obtain ⟨u', T2, ⟨iH, c1, c2, c3, c4⟩, e2⟩ := (D2 (clone75 ((hu.sub lU).sub pE).sl (by rw [u2]; exact hu.le))).ex
   have h4 := h3.sub iH;have hT2n : T1.next + 1 ≤ T2.next := iH.next;have gb4 : T2.h.get S.next = some (.row [.str key, u] 0 0 false 33) := by rw [iH.h _ (by show S.next < T1.next + 1; omega)]; exact gb3
   obtain ⟨T3, d1, d2, d3, d4⟩ := jO (cx := C1) (t := 70) (v := .agg [.str key, u']) (k := n) vr vI h4.em;have hput : oY (X.eb.map DV) n (.agg [.str key, u']) = (X.eb ++ [(⟨n, key, u', ar⟩ : Ev)]).map DV := by
    have : ∀ (l : List Ev) (w : AV), (∀ e, e ∈ l → e.n ≠ n) → oY (l.map DV) n w = l.map DV ++ [(n, w)] := by
     intro l
     induction l with
     | nil => intro w _; rfl
     | cons a l ih =>
      intro w hh;have h1 : ¬ n = a.n := fun e => hh a (List.mem_cons_self ..) e.symm
      simp only [List.map_cons, List.cons_append];show oY ((a.n, a.v) :: l.map DV) n w = _;rw [oY, if_neg h1, ih w fun e he => hh e (List.mem_cons_of_mem _ he)]
      rfl
    rw [this _ _ jq, List.map_append]
    rfl
   rw [hput] at d2;have hlme := h4.Bl;have hlme3 := h.Bl;have hT1x : S.next ≤ T1.next := lU.next;have h5 : bL T3 { X with eb := X.eb ++ [⟨n, key, u', ar⟩], k := X.k + 1 } (na X) := by
    refine h3.add (ev := ⟨n, key, u', ar⟩) jq (by rw [d4]; exact hT2n) (fun id hf bO => (d3 id bO).trans (iH.h id (h3.kA hf))) d2 ⟨c1.bR (fun id hb => d3 id ?_) (by rw [d4]; exact Nat.le_refl _), hu.le⟩ c4
    rcases c4 with c4 | c4
    ·omega
    ·have : T1.next + 1 < cJ u' := c4
     omega
   have fQ : Step S T3 X { X with eb := X.eb ++ [⟨n, key, u', ar⟩], k := X.k + 1 } := by
    refine ⟨⟨fun id bY hf => ?_, by rw [d4]; omega⟩, fun id hf => .inl hf, fun id hf => ?_⟩
    ·rw [d3 id (fun e => hf (.inl e)), iH.h id (by show id < T1.next + 1; omega), pE.h id (by omega)]
     exact lU.h id bY
    ·rcases hf with e | e | e | e | ⟨a, ha, e⟩
     ·exact .inl (.inl e)
     ·exact .inl (.inr (.inl e))
     ·exact .inl (.inr (.inr (.inl e)))
     ·exact .inl (.inr (.inr (.inr (.inl e))))
     ·rcases List.mem_append.1 ha with ha | ha
      ·exact .inl (.inr (.inr (.inr (.inr ⟨a, ha, e⟩))))
      ·simp at ha
       subst ha;have e' : cJ u' = id + 1 := e;rcases c4 with c4 | c4
       ·omega
       ·have : T1.next + 1 < cJ u' := c4
        right; omega
   have gb5 : T3.h.get S.next = some (.row [.str key, u] 0 0 false 33) := by
    rw [d3 _ (by have := h.Bl; omega)]; exact gb4
   simp [s0, s1, s2, nS, jo h1, hu.sl.cells, e1, xu, lk, hn];refine aA [.p, .p, .p, .r 0 1, .p, .p, .r 0 1, .p, .r 0 0, .e [], .p, .e []] (n := 79) (by kernel_rfl) (by simp [hn]) ?_
   have hx4 := h4.x;simp [s0, s1, s2, nS, hu.sl.cells, hx3, hx4, gb3, gb4, gb5, aW hu.sl, aW c1, c1.cells, c1.np, agg_u c1, e2, d1, hn, u1, u2];have hP0 : ∀ s e, na X s e ↔ tu X n (ar.take 0) s e := fun s e => ⟨.inl, fun h => h.elim (fun h => h) fun h => by simp at h⟩
   refine aB (addH S X n ⟨n, key, u', ar⟩ u) ar.length (addH_mk 0 _ (h5.iff hP0) bO rfl rfl (Nat.le_refl _) fQ (by simp [s0]) (by simp [s1]) (by simp) (by simp) (by simp) (Nat.zero_le _) rfl (by simp [hn])) ?_
   clear s0 s1 s2 hn e1 e2 d1
   rintro k F' S' df ⟨i, Y, y1, y2, y3, y4, y5, y6, t0, t1, t44, t45, t46, hi, uE, fg⟩
   clear df;simp only at y1 t45 hi uE;have hS'n : S.next ≤ S'.next := y6.bm.next;have huS := y6.sl hu.sl hux
   by_cases b9 : i < ar.length
   ·have hx : ar[i]? = some ar[i] := List.getElem?_eq_getElem b9
    have iu := cz (cx := C1) (e := 65) huS bG (by omega) hx o_ag65 o_sz65
    have hnm : ∀ b, b ∈ ar.take i → b.name ≠ ar[i].name := fun b hb => Cl qW hx hb
    have pD : ar.take (i + 1) = ar.take i ++ [ar[i]] := List.take_succ_eq_append_getElem b9;generalize ar[i] = a at hx iu hnm pD;obtain ⟨one, jH⟩ : ∃ one : ef, one = ⟨a.val, n⟩ := ⟨_, rfl⟩;have eone : bB one = [.int .i64 a.val.kind, .int .i64 a.val.num, .str a.val.str, .bool a.val.bool, .int .u64 (n : Int)] := by rw [jH]; rfl
    have hA1 : Sub S' ⟨(S'.h.set S'.next (.row [.str [], .int .i64 0, .int .i64 0, .str [], .bool false] 0 0 false 65)).set S'.next (.row (eQ a) 0 0 false 65), S'.next + 1⟩ := jf;have yA := y1.sub hA1;have xA := yA.x;have lkA := yA.lookup a.name;have gA : (⟨(S'.h.set S'.next (.row [.str [], .int .i64 0, .int .i64 0, .str [], .bool false] 0 0 false 65)).set S'.next (.row (eQ a) 0 0 false 65), S'.next + 1⟩ : AS).h.get S'.next = some (.row (eQ a) 0 0 false 65) := aa _ _ _;obtain ⟨A1, eA1⟩ : ∃ A1 : AS, A1 = ⟨(S'.h.set S'.next (.row [.str [], .int .i64 0, .int .i64 0, .str [], .bool false] 0 0 false 65)).set S'.next (.row (eQ a) 0 0 false 65), S'.next + 1⟩ := ⟨_, rfl⟩;have nA1 : A1.next = S'.next + 1 := by rw [eA1]
    rw [← eA1] at hA1 yA xA lkA gA;have hA2 : Sub A1 ⟨(A1.h.set A1.next (.row [.int .i64 0, .int .i64 0, .str [], .bool false, .int .u64 0] 0 0 false 80)).set A1.next (.row (bB one) 0 0 false 80), A1.next + 1⟩ := jf;have yB := yA.sub hA2;have hZ : Sub A1 ⟨A1.h.set A1.next (.row [.int .i64 0, .int .i64 0, .str [], .bool false, .int .u64 0] 0 0 false 80), A1.next + 1⟩ := cS;have xZ := (yA.sub hZ).x;have lkZ := (yA.sub hZ).lookup a.name;have gZ : (⟨A1.h.set A1.next (.row [.int .i64 0, .int .i64 0, .str [], .bool false, .int .u64 0] 0 0 false 80), A1.next + 1⟩ : AS).h.get S'.next = some (.row (eQ a) 0 0 false 65) := by rw [hZ.h _ (by omega)]; exact gA
    have gA2 : (⟨(A1.h.set A1.next (.row [.int .i64 0, .int .i64 0, .str [], .bool false, .int .u64 0] 0 0 false 80)).set A1.next (.row (bB one) 0 0 false 80), A1.next + 1⟩ : AS).h.get A1.next = some (.row (bB one) 0 0 false 80) := aa _ _ _;obtain ⟨w, B, ⟨rfl, hB⟩, e3⟩ := (D2 (BL (yB.jy a.name) (by have := yB.nU a.name; omega) (yB.wc a.name one))).ex
    have hAB := hA2.trans hB;have hSB := hA1.trans hAB;have nB : A1.next + 1 ≤ B.next := hB.next;have gB1 : B.h.get S'.next = some (.row (eQ a) 0 0 false 65) := by rw [hAB.h _ (by omega)]; exact gA
    have gB2 : B.h.get A1.next = some (.row (bB one) 0 0 false 80) := by rw [hB.h _ (Nat.lt_succ_self _)]; exact gA2
    have hC : Sub B ⟨B.h.set B.next (.row (bB one) 0 0 false 80), B.next + 1⟩ := cS;have yC := y1.sub (hSB.trans hC);have xB := (y1.sub hSB).x;have xC := yC.x;have lS'x := y1.lx;obtain ⟨r, W, V, Z, q1, q2, q3, q3c, q4, q5, z1, z2, z3, z4⟩ := ins_step yC y2 a.name one (fun e he => by
     rw [jH];rcases he with ⟨ev, h1, h2, _⟩ | ⟨h1, h2⟩
     ·exact fun e0 => jq ev h1 (h2.trans e0)
     ·exact absurd rfl (hnm (⟨a.name, e.v⟩ : dD) h2)) (by omega) (bid := B.next) (aa _ _ _) (fun hf => by have := y1.kA hf; have := hSB.next; omega) (Nat.lt_succ_self _)
    have gW1 : W.h.get S'.next = some (.row (eQ a) 0 0 false 65) := by
     rw [q4 _ (by show S'.next < B.next + 1; omega) (.inr (fun hf => by have := y1.kA (XI.iW hf); omega)), hC.h _ (by omega)]; exact gB1
    have gW2 : W.h.get A1.next = some (.row (bB one) 0 0 false 80) := by
     rw [q4 _ (by show A1.next < B.next + 1; omega) (.inr (fun hf => by have := y1.kA (XI.iW hf); omega)), hC.h _ (by omega)]; exact gB2
    have gC1 : (⟨B.h.set B.next (.row (bB one) 0 0 false 80), B.next + 1⟩ : AS).h.get S'.next = some (.row (eQ a) 0 0 false 65) := by rw [hC.h _ (by omega)]; exact gB1
    have gC2 : (⟨B.h.set B.next (.row (bB one) 0 0 false 80), B.next + 1⟩ : AS).h.get A1.next = some (.row (bB one) 0 0 false 80) := by rw [hC.h _ (by omega)]; exact gB2
    have xW : W.h.get Y.x = some (.row [.map Y.me, .map Y.mn] 0 0 false 73) := by
     rw [q4 _ (by show Y.x < B.next + 1; have := hSB.next; omega) (.inl rfl)]; exact xC
    have e31 := fun Q => iU (Q := Q) get31 (EI 31) q1 q2
    have ecs := (yA.jy a.name).cells;have enp := (yA.jy a.name).np;have eok := aW (yA.jy a.name);rw [y4] at xA xB xC xW xZ;simp only [eQ, aS] at iu eA1 gA gB1 gC1 gW1 gZ;rw [eone] at e3 gA2 gB2 gC2 gW2 e31 xC gC1;simp [t0, t1, t44, t45, t46, b9, u1, u2, iu, fg, ← eA1];refine aA [.p, .p, .p, .r 0 1, .p, .r 0 1, .r 0 1, .p, .r 0 1, .p, .p, .e [], .p, .e []] (n := 79) (by kernel_rfl) (by simp [fg]) ?_
    simp [t0, t1, t44, t45, t46, fg, xA, gA, lkA, eok, nS, e3, ecs, gA2, xZ, lkZ, gZ];have hfr : ∀ (F : Fr) (id : Nat), sl F 75 = .agg [.int .i64 a.val.kind, .int .i64 a.val.num, .str a.val.str, .bool a.val.bool, .int .u64 (n : Int)] → aI C1 F id (.buildSlice 78 1 #[(0, .tmp 75)]) = some (.slice id 0 0 1 5 5 (some 1), .row [.int .i64 a.val.kind, .int .i64 a.val.num, .str a.val.str, .bool a.val.bool, .int .u64 (n : Int)] 0 0 false 80) := fun F id hF => by
     have := vX (cx := C1) (F := F) (t := 78) (id := id) (n := 1) (a := #[(0, .tmp 75)]) [[.int .i64 a.val.kind, .int .i64 a.val.num, .str a.val.str, .bool a.val.bool, .int .u64 (n : Int)]] z9 rfl (by simp [ay, hF, cellsOf]) (by simp) (by decide)
     simpa using this
    refine aA [.p, .p, .p, .r 0 2, .p, .r 0 2, .p, .p, .r 0 0, .e [], .e [], .e []] (n := 79) (by kernel_rfl) (by simp [fg]) ?_
    simp [t0, t1, t44, t45, t46, fg, xB, xC, xW, gB1, gB2, gC1, gC2, gW1, gW2, eok, nS, hfr, e31, q2, q3, q3c, q5];have hPi : ∀ s e, yc (tu X n (ar.take i)) a.name one s e ↔ tu X n (ar.take (i + 1)) s e := fun s e => by
     unfold yc tu;rw [pD, List.mem_append, List.mem_singleton]
     constructor
     ·rintro ((h1 | ⟨h1, h2⟩) | ⟨h1, h2⟩)
      ·exact .inl h1
      ·exact .inr ⟨h1, .inl h2⟩
      ·rw [h2, h1, jH]
       exact .inr ⟨rfl, .inr rfl⟩
     ·rintro (h1 | ⟨h1, h2 | h2⟩)
      ·exact .inl (.inl h1)
      ·exact .inl (.inr ⟨h1, h2⟩)
      ·obtain ⟨ev, en⟩ := e
       simp only at h1 h2;subst h1;have ha : a.name = s := by rw [← h2]
       have hv : a.val = ev := by rw [← h2]
       exact .inr ⟨ha.symm, by rw [jH, hv]⟩
    exact ⟨ar.length - (i + 1), by omega, addH_mk (i + 1) Z (z1.iff hPi) z2 (z3.eb.trans y3) (z3.x.trans y4) (by rw [z3.k]; omega) ((y6.trans (Step.vq (hSB.trans hC))).trans z4)
     (by simp [t0]) (by simp [t1]) (by simp [t44]) (by simp [t45]) (by simp [aN (show i < 9223372036854775807 by omega)]) b9 rfl (by simp [fg])⟩
   ·obtain rfl : i = ar.length := by omega
    rw [List.take_length] at y1;have hyp : ∀ s e, tu X n ar s e ↔ na Y s e := fun s e => by
     unfold tu na;rw [y3]
     constructor
     ·rintro (⟨ev, h1, h2, h3⟩ | ⟨h1, h2⟩)
      ·exact ⟨ev, List.mem_append.2 (.inl h1), h2, h3⟩
      ·exact ⟨⟨n, key, u', ar⟩, List.mem_append.2 (.inr (List.mem_singleton.2 rfl)), h1.symm, h2⟩
     ·rintro ⟨ev, h1, h2, h3⟩
      rcases List.mem_append.1 h1 with h1 | h1
      ·exact .inl ⟨ev, h1, h2, h3⟩
      ·simp at h1
       subst h1;exact .inr ⟨h2.symm, h3⟩
    simp [t0, t1, t44, t45, t46];exact ⟨Y, y1.iff hyp, y2, y6, y4, by omega, .inr (.inr ⟨hm, jq, rfl, u', y3⟩)⟩
end
def py (X : XI) (n : Nat) (l : List dD) (s : List Nat) (e : ef) : Prop := na X s e ∧ ¬ (e.n = n ∧ (⟨s, e.v⟩ : dD) ∈ l)
def remH (S : AS) (X : XI) (n : Nat) (u : AV) (ar : List dD) (k : Nat) (F' : Fr) (S' : AS) : Prop :=
 ∃ (i : Nat) (Y : XI), bL S' Y (py X n (ar.take i)) ∧ eP Y ∧ Y.eb = mC X.eb n ∧ Y.x = X.x ∧ Y.k = X.k ∧ Step S S' { X with eb := mC X.eb n } Y ∧
  sl F' 0 = .ptr X.x 0 0 2 ∧ sl F' 1 = .int .u64 (n : Int) ∧ sl F' 31 = u ∧ sl F' 32 = .int .i64 (ar.length : Int) ∧ sl F' 33 = .int .i64 (i : Int) ∧ i ≤ ar.length ∧ k = ar.length - i ∧ F'.n = 74
theorem remH_mk {S : AS} {X : XI} {n : Nat} {u : AV} {ar : List dD} {k : Nat} {F' : Fr} {S' : AS} (i : Nat) (Y : XI) (h1 : bL S' Y (py X n (ar.take i))) (h2 : eP Y) (h3 : Y.eb = mC X.eb n) (h4 : Y.x = X.x) (h5 : Y.k = X.k) (h6 : Step S S' { X with eb := mC X.eb n } Y)
  (h7 : sl F' 0 = .ptr X.x 0 0 2) (h8 : sl F' 1 = .int .u64 (n : Int)) (h9 : sl F' 31 = u) (qA : sl F' 32 = .int .i64 (ar.length : Int)) (rf : sl F' 33 = .int .i64 (i : Int)) (DT : i ≤ ar.length) (h13 : k = ar.length - i) (h14 : F'.n = 74) : remH S X n u ar k F' S' :=
 ⟨i, Y, h1, h2, h3, h4, h5, h6, h7, h8, h9, qA, rf, DT, h13, h14⟩
theorem nt11 : Tryz.f11.ntmps = 74 := by kernel_rfl
structure Removed (S T : AS) (X X' : XI) (n : Nat) (r : AV) : Prop where
 ix : bL T X' (na X')
 ne : eP X'
 step : Step S T X X'
 x : X'.x = X.x
 k : X'.k = X.k
 Bt : ((∀ e, e ∈ X.eb → e.n ≠ n) ∧ r = .int .i64 6 ∧ X'.eb = X.eb) ∨ ((∃ e, e ∈ X.eb ∧ e.n = n) ∧ r = .int .i64 0 ∧ X'.eb = mC X.eb n)
section
variable {S : AS} {X : XI}
set_option maxRecDepth 20000 in
set_option maxHeartbeats 2000000 in
theorem remove11 {n : Nat} (h : bL S X (na X)) (bO : eP X) (hmy : ∀ e, e ∈ X.eb → ec e.key e.ar = true) (hk : X.k ≤ 1048576) :
  ai C1 11 [.ptr X.x 0 0 2, .int .u64 (n : Int)] S fun r T => ∃ X', Removed S T X X' n r := by
 have lk := lA (cx := C1) (t := 70) (k := n) (ok := true) vr vI (h.em.mp h.Bl);have hx0 := h.x;have hlx := h.lx;refine cU (EI _) (pr1 _ rfl) o_fn11 rfl o_ok11 (by simp) fun F hn s0 s1 => ?_
 rw [nt11] at hn;rcases h.ea n with ⟨ev, he, hen, hg⟩ | ⟨hg, jq⟩
 ·rw [hg] at lk
  simp [Ev.v] at lk;have xD := h.kK ev he;have kz := xD.sl.cells;have u1 := xD.sl.sl;have u2 := xD.sl.aO bG (by omega)
  obtain ⟨qW, hm8⟩ := uJ (hmy ev he);obtain ⟨A, eA⟩ : ∃ A : AS, A = ⟨(S.h.set S.next (.row [.str [], .aH] 0 0 false 33)).set S.next (.row [.str ev.key, ev.u] 0 0 false 33), S.next + 1⟩ := ⟨_, rfl⟩;have hA : Sub S A := by rw [eA]; exact jf
  have nA : A.next = S.next + 1 := by rw [eA]
  have gA : A.h.get S.next = some (.row [.str ev.key, ev.u] 0 0 false 33) := by rw [eA]; exact aa _ _ _
  have DS := h.sub hA;have xA := DS.x;obtain ⟨D, d1, d2, d3, d4⟩ := wj (cx := C1) (t := 70) (k := n) vr vI DS.em;have hD : bL D { X with eb := mC X.eb n } (na X) := DS.del (by rw [d4]; exact Nat.le_refl _) (fun id _ h2 => d3 id h2) (by rw [Dc]; exact d2)
  have gD : D.h.get S.next = some (.row [.str ev.key, ev.u] 0 0 false 33) := by rw [d3 _ (by have := h.Bl; omega)]; exact gA
  have hub : ∀ id, cJ ev.u = id + 1 → ¬ XI.wf { X with eb := mC X.eb n } id := by
   rintro id hb (e | e | ⟨m, hm, e⟩)
   ·exact (h.aid ev he).2.1 (by rw [hb, e])
   ·exact (h.aid ev he).2.2.1 (by rw [hb, e])
   ·exact (h.aid ev he).2.2.2 m hm (by rw [hb, e])
  have huD : Sl D ev.u 5 (ev.ar.flatMap eQ) := (xD.sl.toSub hA).bR (fun id hb => d3 id (fun e => hub id hb (.inl e))) (by rw [d4]; exact Nat.le_refl _)
  have hSD : Step S D X { X with eb := mC X.eb n } := by
   refine ⟨⟨fun id bY hf => ?_, by rw [d4]; exact hA.next⟩, fun id hf => .inl hf, fun id hf => ?_⟩
   ·rw [d3 id (fun e => hf (.inl e))]; exact hA.h id bY
   ·rcases hf with e | e | e | e | ⟨a, ha, e⟩
    ·exact .inl (.inl e)
    ·exact .inl (.inr (.inl e))
    ·exact .inl (.inr (.inr (.inl e)))
    ·exact .inl (.inr (.inr (.inr (.inl e))))
    ·exact .inl (.inr (.inr (.inr (.inr ⟨a, (wq n X.eb).subset ha, e⟩))))
  have hP0 : ∀ s e, na X s e ↔ py X n (ev.ar.take 0) s e := fun s e => ⟨fun hh => ⟨hh, fun h2 => by simp at h2⟩, fun hh => hh.1⟩
  simp [s0, s1, nS, jo h, hx0, lk, kz, ← eA, xA, C7, d1, gD, u1, u2, aW xD.sl, gA];refine aB (remH D X n ev.u ev.ar) ev.ar.length (remH_mk 0 _ (hD.iff hP0) bO rfl rfl rfl Step.refl (by simp [s0]) (by simp [s1]) (by simp) (by simp) (by simp) (Nat.zero_le _) rfl (by simp [hn])) ?_
  clear s0 s1 hn d1
  rintro k F' S' df ⟨i, Y, y1, y2, y3, y4, y5, y6, t0, t1, t31, t32, t33, hi, uE, fg⟩
  clear df;have hS'n : D.next ≤ S'.next := y6.bm.next;have huS := y6.sl huD hub
  by_cases b9 : i < ev.ar.length
  ·have hx : ev.ar[i]? = some ev.ar[i] := List.getElem?_eq_getElem b9
   have iu := cz (cx := C1) (e := 65) huS bG (by omega) hx o_ag65 o_sz65
   have hnm : ∀ b, b ∈ ev.ar.take i → b.name ≠ ev.ar[i].name := fun b hb => Cl qW hx hb
   have pD : ev.ar.take (i + 1) = ev.ar.take i ++ [ev.ar[i]] := List.take_succ_eq_append_getElem b9;have dj : ev.ar[i] ∈ ev.ar := List.getElem_mem b9;generalize ev.ar[i] = a at hx iu hnm pD dj;obtain ⟨one, jH⟩ : ∃ one : ef, one = ⟨a.val, n⟩ := ⟨_, rfl⟩;have eone : bB one = [.int .i64 a.val.kind, .int .i64 a.val.num, .str a.val.str, .bool a.val.bool, .int .u64 (n : Int)] := by rw [jH]; rfl
   have hPo : py X n (ev.ar.take i) a.name one := by
    rw [jH];exact ⟨⟨ev, he, hen, dj⟩, fun h2 => hnm _ h2.2 rfl⟩
   obtain ⟨A1, eA1⟩ : ∃ A1 : AS, A1 = ⟨(S'.h.set S'.next (.row [.str [], .int .i64 0, .int .i64 0, .str [], .bool false] 0 0 false 65)).set S'.next (.row (eQ a) 0 0 false 65), S'.next + 1⟩ := ⟨_, rfl⟩;have hA1 : Sub S' A1 := by rw [eA1]; exact jf
   have nA1 : A1.next = S'.next + 1 := by rw [eA1]
   have gA1 : A1.h.get S'.next = some (.row (eQ a) 0 0 false 65) := by rw [eA1]; exact aa _ _ _
   have yA := y1.sub hA1;have xA1 := yA.x;have lkA := yA.lookup a.name;obtain ⟨w, B, ⟨rfl, hB⟩, e3⟩ := (D2 (BL (yA.jy a.name) (by have := yA.nU a.name; omega) (yA.wc a.name one))).ex
   have hSB := hA1.trans hB;have yB := y1.sub hSB;have xB := yB.x;have gB : B.h.get S'.next = some (.row (eQ a) 0 0 false 65) := by rw [hB.h _ (by omega)]; exact gA1
   have hBn : S'.next + 1 ≤ B.next := by have := hB.next; omega
   obtain ⟨r, W, V, Z, q1, q2, q3, q3c, q4, q5, z1, z3, z4, z5, z6⟩ := del_step yB y2 a.name one hPo (by omega)
   have hnw : ¬ Y.wf S'.next := fun hf => by have := y1.kA (XI.iW hf); omega
   have gW : W.h.get S'.next = some (.row (eQ a) 0 0 false 65) := by rw [q4 _ (by omega) (.inr hnw)]; exact gB
   have xW : W.h.get Y.x = some (.row [.map Y.me, .map Y.mn] 0 0 false 73) := by rw [q4 _ (by have := yB.lx; omega) (.inl rfl)]; exact xB
   have gV : V.h.get S'.next = some (.row (eQ a) 0 0 false 65) := by rw [z4.bm.h _ (by omega) hnw]; exact gB
   have xV : V.h.get Y.x = some (.row [.map Y.me, .map Y.mn] 0 0 false 73) := by
    have := z1.x;rw [z3.x, z3.me, z3.mn] at this;exact this
   have e34 := fun Q => iU (Q := Q) get34 (EI 34) q1 q2
   have ecs := (yA.jy a.name).cells;have enp := (yA.jy a.name).np;have eok := aW (yA.jy a.name);have eokv := (yA.jy a.name).ok;have esl := (yA.jy a.name).sl;have eln := (yA.jy a.name).aO bF (by omega)
   have hwk := aN (i := entK Y a.name one) (by have := (yA.wc a.name one).le; have := yA.nU a.name; omega)
   have hPi : ∀ s e, tA (py X n (ev.ar.take i)) a.name one s e ↔ py X n (ev.ar.take (i + 1)) s e := fun s e => by
    unfold tA py;rw [pD, List.mem_append, List.mem_singleton]
    constructor
    ·rintro ⟨⟨h1, h2⟩, h3⟩
     refine ⟨h1, fun h4 => ?_⟩
     rcases h4.2 with h5 | h5
     ·exact h2 ⟨h4.1, h5⟩
     ·refine h3 ⟨by rw [← h5], ?_⟩
      obtain ⟨ev', en⟩ := e;have h6 : en = n := h4.1;rw [jH, ← h5, h6]
    ·rintro ⟨h1, h2⟩
     refine ⟨⟨h1, fun h3 => h2 ⟨h3.1, .inl h3.2⟩⟩, fun h3 => h2 ?_⟩
     rw [h3.2, jH, h3.1];exact ⟨rfl, .inr rfl⟩
   have fin : ∀ (F2 : Fr) (V' : AS) (Z' : XI), bL V' Z' (tA (py X n (ev.ar.take i)) a.name one) → eP Z' → Same Y Z' Y.k → Step B V' Y Z' → sl F2 0 = .ptr X.x 0 0 2 → sl F2 1 = .int .u64 (n : Int) → sl F2 31 = ev.u → sl F2 32 = .int .i64 (ev.ar.length : Int) → sl F2 33 = .int .i64 ((i + 1 : Nat) : Int) → F2.n = 74 →
     ∃ j, j < k ∧ remH D X n ev.u ev.ar j F2 V' := fun F2 V' Z' g1 g2 g3 g4 p0 p1 p31 p32 p33 pn =>
    ⟨ev.ar.length - (i + 1), by omega, remH_mk (i + 1) Z' (g1.iff hPi) g2 (g3.eb.trans y3) (g3.x.trans y4) (g3.k.trans y5) ((y6.trans (Step.vq hSB)).trans g4) p0 p1 p31 p32 p33 b9 rfl pn⟩
   rw [y4] at xA1 xB xW xV;simp only [eQ, aS] at iu eA1 gA1 gB gW gV;rw [eone] at e3;simp [t0, t1, t31, t32, t33, b9, u1, u2, iu, fg, ← eA1];refine jQ (n := 74) (by kernel_rfl) (by simp [fg]) ?_
   simp [t0, t1, t31, t32, t33, fg, xA1, gA1, lkA, eokv, nS, e3];refine aA [.p, .p, .p, .r 0 1, .p, .r 0 1, .p, .p, .p, .p, .e [], .e []] (n := 74) (by kernel_rfl) (by simp [fg]) ?_
   simp [t0, t1, t31, t32, t33, fg, xB, xW, gB, gW, eok, nS, e34, hwk, -Int.natCast_add, q2, q3, q3c, q5, esl, eln];have w46 := aN (show i < 9223372036854775807 by omega)
   by_cases Av : (gX Y a.name).length = 1
   ·obtain ⟨U, Z', p1, p2, p3, p4, p5⟩ := z6 Av
    have hl1' : ((gX Y a.name).length : Int) = 1 := by omega
    simp [hl1'];refine aA [.p, .p, .p, .r 0 0, .p, .r 0 0, .e []] (n := 74) (by kernel_rfl) (by simp [fg]) ?_
    simp [t0, t1, t31, t32, t33, fg, xV, gV, C7, p1];exact fin _ U Z' p2 p3 p4 p5 (by simp [t0]) (by simp [t1]) (by simp [t31]) (by simp [t32]) (by simp [w46, -Int.natCast_add]) (by simp [fg])
   ·have hl1' : ¬ ((gX Y a.name).length : Int) = 1 := by omega
    simp [hl1', t33];exact fin _ V Z z1 (z5 Av) z3 z4 (by simp [t0]) (by simp [t1]) (by simp [t31]) (by simp [t32]) (by simp [w46, -Int.natCast_add]) (by simp [fg])
  ·obtain rfl : i = ev.ar.length := by omega
   rw [List.take_length] at y1;have hyp : ∀ s e, py X n ev.ar s e ↔ na Y s e := fun s e => by
    unfold py na;rw [y3];have hme := vB (n := n) h.evk
    constructor
    ·rintro ⟨⟨ev', h1, h2, h3⟩, h4⟩
     refine ⟨ev', (hme ev').2 ⟨h1, fun h5 => h4 ⟨h2.symm.trans h5, ?_⟩⟩, h2, h3⟩
     by_cases hq : ev' = ev
     ·rw [← hq]; exact h3
     ·exact absurd (h5.trans hen.symm) (qJ h.evk h1 he hq)
    ·rintro ⟨ev', h1, h2, h3⟩
     obtain ⟨h5, h6⟩ := (hme ev').1 h1;exact ⟨⟨ev', h5, h2, h3⟩, fun h7 => h6 (h2.trans h7.1)⟩
   simp [t0, t1, t31, t32, t33];exact ⟨Y, y1.iff hyp, y2, hSD.trans y6, y4, y5, .inr ⟨⟨ev, he, hen⟩, rfl, y3⟩⟩
 ·rw [hg] at lk
  simp at lk;have pE : Sub S ⟨(S.h.set S.next (.row [.str [], .aH] 0 0 false 33)).set S.next (.row [.str [], .aH] 0 0 false 33), S.next + 1⟩ := jf;simp [s0, s1, nS, jo h, hx0, lk];exact ⟨X, h.sub pE, bO, Step.vq pE, rfl, rfl, .inl ⟨jq, rfl, rfl⟩⟩
end
def ya (S : AS) (X : XI) (cs : List de) (b : AV) (B : List ef) : Prop :=
 Sl S b 5 (B.flatMap bB) ∧ ∃ c, c ∈ cs ∧ B.Sublist (gX X c.name) ∧ ∀ x, x ∈ gX X c.name → aY c x.v = true → x ∈ B
theorem ya.of {S : AS} {X : XI} {cs : List de} {c : de} {r : AV} (hc : c ∈ cs) (h : Held S (gX X c.name) c r) : ∃ B, ya S X cs r B := by
 obtain ⟨lo, hi, h1, h2, h3, h4⟩ := h;refine ⟨((gX X c.name).drop lo).take (hi - lo), h3, c, hc, (List.take_sublist _ _).trans (List.drop_sublist _ _), fun x hx hh => ?_⟩
 obtain ⟨i, b9, e⟩ := List.getElem_of_mem hx;have kR : (gX X c.name)[i]? = some x := by rw [List.getElem?_eq_getElem b9, e]
 have lI : lo ≤ i ∧ i < hi := by
  by_cases hq : i < lo ∨ hi ≤ i
  ·rw [h4 i x kR hq] at hh; cases hh
  ·omega
 refine List.mem_iff_getElem?.2 ⟨i - lo, ?_⟩;rw [List.getElem?_take, if_pos (by omega), List.getElem?_drop, show lo + (i - lo) = i by omega]
 exact kR
theorem ya.sub {S T : AS} {X : XI} {cs : List de} {b : AV} {B : List ef} (h : ya S X cs b B) (hs : Sub S T) : ya T X cs b B := ⟨h.1.toSub hs, h.2⟩
def ml (X : XI) (cs : List de) (B : List ef) : List Nat := (B.filter fun x => match X.eb.find? fun e => decide (e.n = x.n) with | some e => di cs e.ar | none => false).map ef.n
theorem uI {X : XI} {S : AS} {P : List Nat → ef → Prop} (h : bL S X P) {e : Ev} (he : e ∈ X.eb) : X.eb.find? (fun a => decide (a.n = e.n)) = some e := by
 cases hf : X.eb.find? fun a => decide (a.n = e.n) with
 | none =>
  have := List.find?_eq_none.1 hf e he;simp at this
 | some a =>
  have h1 := List.find?_some hf;have h2 := List.mem_of_find?_eq_some hf
  by_cases hq : a = e
  ·rw [hq]
  ·exact absurd (by simpa using h1) (qJ h.evk h2 he hq)
theorem getA_mem {l : List dD} {s : List Nat} {v : gN} (h : fl l s = some v) : (⟨s, v⟩ : dD) ∈ l := by
 unfold fl at h
 cases hf : l.find? fun a => fX a.name s with
 | none => rw [hf] at h; cases h
 | some a =>
  rw [hf] at h;simp at h;have h1 := List.find?_some hf;rw [fy] at h1;have h2 := List.mem_of_find?_eq_some hf;have : (⟨s, v⟩ : dD) = a := by
   rw [← h, ← (of_decide_eq_true h1)]
  rw [this]; exact h2
theorem match_all {cs : List de} {l : List dD} (h : di cs l = true) {c : de} (hc : c ∈ cs) : ∃ v, fl l c.name = some v ∧ aY c v = true := by
 unfold di at h;rw [Bool.not_eq_true', List.any_eq_false] at h;have h1 := h c hc;unfold lK at h1
 cases hg : fl l c.name with
 | none => rw [hg] at h1; simp at h1
 | some v => rw [hg] at h1; exact ⟨v, rfl, by simpa using h1⟩
theorem rZ {α β : Type} {f : α → β} : ∀ {l : List α}, (∀ x y, x ∈ l → y ∈ l → f x = f y → x = y) → l.Nodup → (l.map f).Nodup
 | [], _, _ => List.Pairwise.nil
 | a :: l, h, hn => by
  obtain ⟨h1, h2⟩ := List.pairwise_cons.1 hn;refine List.pairwise_cons.2 ⟨fun b hb e => ?_, rZ (fun x y hx hy => h x y (List.mem_cons_of_mem _ hx) (List.mem_cons_of_mem _ hy)) h2⟩
  obtain ⟨x, hx, rfl⟩ := List.mem_map.1 hb;exact h1 x hx (h a x (List.mem_cons_self ..) (List.mem_cons_of_mem _ hx) e)
theorem out_ok {X : XI} {S : AS} (h : bL S X (na X)) (hmy : ∀ e, e ∈ X.eb → ec e.key e.ar = true) {cs : List de} {b : AV} {B : List ef} (hb : ya S X cs b B) :
  (ml X cs B).Nodup ∧ ∀ n, n ∈ ml X cs B ↔ ∃ e, e ∈ X.eb ∧ e.n = n ∧ di cs e.ar = true := by
 obtain ⟨_, c, hc, cr, gS⟩ := hb;have hent : ∀ x, x ∈ B → ∃ e, e ∈ X.eb ∧ e.n = x.n ∧ (⟨c.name, x.v⟩ : dD) ∈ e.ar := fun x hx => (h.xG c.name x).1 (cr.subset hx)
 have hinj : ∀ x y, x ∈ B → y ∈ B → x.n = y.n → x = y := fun x y hx hy rF => by
  obtain ⟨e, h1, h2, h3⟩ := hent x hx;obtain ⟨e', h4, h5, h6⟩ := hent y hy;have hee : e = e' := Classical.byContradiction fun hq => qJ h.evk h1 h4 hq (by rw [h2, h5, rF])
  subst hee;have qW := (uJ (hmy e h1)).1;have hv : (⟨c.name, x.v⟩ : dD) = ⟨c.name, y.v⟩ := Classical.byContradiction fun hq => by
   have hr := pQ qW;have : e.ar.Pairwise fun a b => a.name ≠ b.name := hr.imp fun {a b} qz e0 => by rw [e0, oE] at qz; cases qz
   exact qJ this h3 h6 hq rfl
  obtain ⟨xv, xn⟩ := x;obtain ⟨yv, yn⟩ := y;simp only [dD.mk.injEq, true_and] at hv;simp only at rF;rw [hv, rF]
 have hnd : B.Nodup := (h.entR c.name).sublist cr |>.imp fun {a b} qz e0 => by
  rw [e0] at qz;have := jX.self b; omega
 refine ⟨?_, fun n => ?_⟩
 ·unfold ml
  refine rZ ?_ (hnd.sublist List.filter_sublist);intro x y hx hy rF;exact hinj x y (List.mem_filter.1 hx).1 (List.mem_filter.1 hy).1 rF
 ·unfold ml
  rw [List.mem_map]
  constructor
  ·rintro ⟨x, hx, rfl⟩
   obtain ⟨hx1, xu⟩ := List.mem_filter.1 hx;obtain ⟨e, h1, h2, h3⟩ := hent x hx1;rw [← h2, uI h h1] at xu;exact ⟨e, h1, h2, xu⟩
  ·rintro ⟨e, h1, h2, h3⟩
   obtain ⟨v, h4, h5⟩ := match_all h3 hc;have hx : (⟨v, n⟩ : ef) ∈ gX X c.name := (h.xG c.name ⟨v, n⟩).2 ⟨e, h1, h2, getA_mem h4⟩;refine ⟨⟨v, n⟩, List.mem_filter.2 ⟨gS _ hx h5, ?_⟩, rfl⟩;show (match X.eb.find? fun e => decide (e.n = n) with | some e => di cs e.ar | none => false) = true
   rw [← h2, uI h h1];exact h3
theorem yz (X : XI) (cs : List de) (B : List ef) (x : ef) : ml X cs (B ++ [x]) = ml X cs B ++ ml X cs [x] := by
 unfold ml;rw [List.filter_append, List.map_append]
theorem own_num {S : AS} {lo : Nat} {v : AV} {l : List Nat} (h : Own S lo v 1 30 (cI l)) : aQ S v l.toArray := by
 refine ⟨by simpa using h.gw, fun id cells low top frz ty hb hr => ?_⟩
 rcases h with ⟨rfl, _⟩ | ⟨qu, g, low', n, rfl, h1, h2, h3, h4, h5⟩
 ·simp [cJ] at hb
 ·have : qu = id := by simpa [cJ] using hb
  subst this;rw [h3] at hr
  cases hr
  rw [ek]; simp
def q1H (S : AS) (X : XI) (p u : AV) (cs : List de) (k : Nat) (F' : Fr) (S' : AS) : Prop :=
 ∃ (i : Nat) (b : AV) (B : List ef), Sub S S' ∧ ya S' X cs b B ∧ sl F' 0 = .ptr X.x 0 0 2 ∧ sl F' 1 = p ∧ sl F' 6 = .aH ∧ sl F' 7 = b ∧ sl F' 39 = u ∧ sl F' 40 = .int .i64 ((cs.length - 1 : Nat) : Int) ∧ sl F' 41 = .int .i64 (i : Int) ∧ i ≤ cs.length - 1 ∧ k = cs.length - 1 - i ∧ F'.n = 85
theorem EH {S : AS} {X : XI} {p u : AV} {cs : List de} {k : Nat} {F' : Fr} {S' : AS} (i : Nat) (b : AV) (B : List ef) (h1 : Sub S S') (h2 : ya S' X cs b B) (h3 : sl F' 0 = .ptr X.x 0 0 2) (h4 : sl F' 1 = p) (h5 : sl F' 6 = .aH) (h6 : sl F' 7 = b) (h7 : sl F' 39 = u) (h8 : sl F' 40 = .int .i64 ((cs.length - 1 : Nat) : Int))
  (h9 : sl F' 41 = .int .i64 (i : Int)) (qA : i ≤ cs.length - 1) (rf : k = cs.length - 1 - i) (DT : F'.n = 85) : q1H S X p u cs k F' S' := ⟨i, b, B, h1, h2, h3, h4, h5, h6, h7, h8, h9, qA, rf, DT⟩
def q2H (S : AS) (X : XI) (p b : AV) (cs : List de) (B : List ef) (k : Nat) (F' : Fr) (S' : AS) : Prop :=
 ∃ (i : Nat) (v : AV), Sub S S' ∧ Own S' S.next v 1 30 (cI (ml X cs (B.take i))) ∧ sl F' 0 = .ptr X.x 0 0 2 ∧ sl F' 1 = p ∧ sl F' 6 = v ∧ sl F' 61 = b ∧ sl F' 62 = .int .i64 (B.length : Int) ∧ sl F' 63 = .int .i64 (i : Int) ∧ i ≤ B.length ∧ k = B.length - i ∧ F'.n = 85
theorem EG {S : AS} {X : XI} {p b : AV} {cs : List de} {B : List ef} {k : Nat} {F' : Fr} {S' : AS} (i : Nat) (v : AV) (h1 : Sub S S') (h2 : Own S' S.next v 1 30 (cI (ml X cs (B.take i)))) (h3 : sl F' 0 = .ptr X.x 0 0 2) (h4 : sl F' 1 = p) (h5 : sl F' 6 = v) (h6 : sl F' 61 = b) (h7 : sl F' 62 = .int .i64 (B.length : Int))
  (h9 : sl F' 63 = .int .i64 (i : Int)) (qA : i ≤ B.length) (rf : k = B.length - i) (DT : F'.n = 85) : q2H S X p b cs B k F' S' := ⟨i, v, h1, h2, h3, h4, h5, h6, h7, h9, qA, rf, DT⟩
theorem nt12 : Tryz.f12.ntmps = 85 := by kernel_rfl
def Told (T : AS) (X : XI) (cs : List de) (r : AV) : Prop :=
 (jZ cs = false ∧ r = .tuple [.aH, .int .i64 30]) ∨ (jZ cs = true ∧ ∃ v l, r = .tuple [v, .int .i64 0] ∧ Sl T v 1 (cI l) ∧ l.Pairwise (· < ·) ∧ l.length ≤ X.k ∧ ∀ n, n ∈ l ↔ ∃ e, e ∈ X.eb ∧ e.n = n ∧ di cs e.ar = true)
theorem mayP_con {cs : List de} (h : jZ cs = true) : cs.length ≤ 6 ∧ ∀ c, c ∈ cs → m6 c = true := by
 unfold jZ at h;simp only [Bool.and_eq_true, decide_eq_true_eq] at h;refine ⟨h.1, fun c hc => ?_⟩
 have h3 := h.2;rw [Bool.not_eq_true', List.any_eq_false] at h3;have := h3 c hc;simpa using this
section
variable {S : AS} {X : XI}
set_option maxRecDepth 20000 in
set_option maxHeartbeats 4000000 in
theorem query12 {p : AV} {cs : List de} (h : bL S X (na X)) (hmy : ∀ e, e ∈ X.eb → ec e.key e.ar = true) (hp : js S p cs) (hk : X.k ≤ 1048576) :
  ai C1 12 [.ptr X.x 0 0 2, p] S fun r T => Sub S T ∧ Told T X cs r := by
 obtain ⟨r1, T1, ⟨rfl, iv⟩, e1⟩ := (D2 (mayPred hp)).ex;have u1 := hp.sl.sl;have u2 := hp.sl.aO dy (by omega)
 have h1 := h.sub iv;have x1 := h1.x;have pU := hp.sub iv;refine cU (EI _) (pr1 _ rfl) o_fn12 rfl o_ok12 (by simp) fun F hn s0 s1 => ?_
 rw [nt12] at hn
 cases hm : jZ cs with
 | false =>
  rw [hm] at e1;simp [s0, s1, nS, jo h, e1];exact ⟨iv, .inl ⟨hm, rfl⟩⟩
 | true =>
  rw [hm] at e1;obtain ⟨hc6, hcm⟩ := mayP_con hm
  by_cases hz : cs.length = 0
  ·have hz' : (cs.length : Int) = 0 := by omega
   obtain ⟨v, T2, ⟨g1, g2⟩, e2⟩ := (yG h1 hk).ex;simp [s0, s1, nS, jo h, e1, u1, u2, hz', e2, g1.np, g1.cells];refine ⟨iv.trans g2, .inr ⟨hm, v, fO X, rfl, g1, yF h1, ?_, fun n => ?_⟩⟩
   ·unfold fO
    rw [List.length_mergeSort, List.length_map]; exact h.evl
   ·rw [vt]
    have hcs : cs = [] := List.length_eq_zero_iff.1 hz;have hmt : ∀ l, di cs l = true := fun l => by rw [hcs]; rfl
    exact ⟨fun ⟨e, q1, q2⟩ => ⟨e, q1, q2, hmt _⟩, fun ⟨e, q1, q2, _⟩ => ⟨e, q1, q2⟩⟩
  ·have hz' : ¬ (cs.length : Int) = 0 := by omega
   have h0 : 0 < cs.length := by omega
   have hcne : cs ≠ [] := fun e => hz (by rw [e]; rfl)
   obtain ⟨c, hx0⟩ : ∃ c, cs[0]? = some c := ⟨cs[0], List.getElem?_eq_getElem h0⟩;have hcin : c ∈ cs := List.mem_of_getElem? hx0;have lo0 := cz (cx := C1) (e := 54) pU.sl dy (by omega) hx0 o_ag54 o_sz54
   have ln0 := gL (cx := C1) (e := 9) (o := 0) (y := .str c.name) pU.sl dy (by omega) hx0 rfl o_ag9
   have lk0 := h1.lookup c.name;obtain ⟨b0, T2, ⟨iH, hb0⟩, e2⟩ := (D2 (hold35 (h1.jy c.name) (pU.con c hcin) (h1.entR c.name) (by have := h1.nU c.name; omega) (hcm c hcin))).ex
   obtain ⟨B0, hB0⟩ := ya.of hcin hb0;have hpp := ik (k := 0) u1 (by rw [u2]; exact h0)
   have ecs := (h1.jy c.name).cells;have eok := aW (h1.jy c.name);have ecb := hB0.1.cells;have enb := hB0.1.np;have eokb := aW hB0.1;have hsl39 : ∀ F : Fr, cE C1 F 25 p (some (.const (.int .i64 1))) none none = some (oU p 1 cs.length) := fun F =>
    dh o_st25 u1 (by rw [az]; exact yK) (by rw [cy, u2]) (by omega) (by rw [u2]; exact Nat.le_refl _)
   have hsu := hp.sl.cut (l := 1) (k := cs.length) (by omega) (by rw [u2]; exact Nat.le_refl _)
   rw [mz dy, mw dy] at hsu;have husl := hsu.sl;have huln := Bw hp.sl (l := 1) (k := cs.length) (by omega) (by rw [u2]; exact Nat.le_refl _)
   simp only [bo] at lo0 e2;simp [s0, s1, nS, jo h, e1, u1, u2, hz', hcne, hn];refine aA [.p, .p, .p, .r 0 0, .p, .p, .p, .r 0 0, .r 0 0, .p, .p, .r 0 0, .e [], .p] (n := 85) (by kernel_rfl) (by simp [hn]) ?_
   simp [s0, s1, nS, u1, u2, h0, hn, x1, bl hpp, lo0, ln0, lk0, e2, ecs, eok, aW hp.sl, ecb, enb, eokb, hsl39, husl, huln];refine aB (q1H S X p (oU p 1 cs.length) cs) (cs.length - 1) (EH 0 b0 B0 (iv.trans iH) hB0 (by simp [s0]) (by simp [s1]) (by simp) (by simp) (by simp) (by simp) (by simp) (Nat.zero_le _) rfl (by simp [hn])) ?_
   clear s0 s1 hn e1 e2
   rintro k F' S' df ⟨i, b, B, q1, q2, t0, t1, t6, t7, t39, t40, t41, hi, uE, fg⟩
   clear df;have hx := (h.sub q1);have hxx := hx.x;have sb := q2.1.sl;have lb := q2.1.aO bF (by omega)
   by_cases b9 : i < cs.length - 1
   ·obtain ⟨c1, yX⟩ : ∃ c1, cs[i + 1]? = some c1 := ⟨cs[i + 1], List.getElem?_eq_getElem (by omega)⟩
    have hc1in : c1 ∈ cs := List.mem_of_getElem? yX;have hel : ((cs.drop 1).take (cs.length - 1))[i]? = some c1 := by
     rw [List.getElem?_take, if_pos b9, List.getElem?_drop, Nat.add_comm]; exact yX
    have iu := cz (cx := C1) (e := 54) (hsu.toSub q1) dy (by omega) hel o_ag54 o_sz54
    obtain ⟨A, eA⟩ : ∃ A : AS, A = ⟨(S'.h.set S'.next (.row [.str [], .int .i64 0, .int .i64 0, .int .i64 0, .str [], .bool false, .aH] 0 0 false 54)).set S'.next (.row (bo c1) 0 0 false 54), S'.next + 1⟩ := ⟨_, rfl⟩;have hA : Sub S' A := by rw [eA]; exact jf
    have gA : A.h.get S'.next = some (.row (bo c1) 0 0 false 54) := by rw [eA]; exact aa _ _ _
    have DS := hx.sub hA;have xA := DS.x;have lkA := DS.lookup c1.name;obtain ⟨b1, T, ⟨hT, lJ⟩, e3⟩ := (D2 (hold35 (DS.jy c1.name) ((hp.con c1 hc1in).sub (q1.trans hA)) (DS.entR c1.name) (by have := DS.nU c1.name; omega) (hcm c1 hc1in))).ex
    obtain ⟨B1, hB1⟩ := ya.of hc1in lJ;have eok1 := aW (DS.jy c1.name);have ec1 := hB1.1.cells;have en1 := hB1.1.np;have eokb1 := aW hB1.1;have sb1 := hB1.1.sl;have lb1 := hB1.1.aO bF (by omega)
    have ue := (hp.con c1 hc1in).sl.cells;have w41 := aN (show i < 9223372036854775807 by omega)
    simp only [bo] at iu eA gA e3;simp [t0, t1, t6, t7, t39, t40, t41, b9, husl, huln, iu, fg, ← eA, ue];refine aA [.p, .p, .p, .r 0 0, .p, .r 0 0, .r 0 0, .r 0 0, .e [], .p] (n := 85) (by kernel_rfl) (by simp [fg]) ?_
    simp [t0, t1, t6, t7, t39, t40, t41, fg, xA, gA, lkA, eok1, nS, e3, ec1, en1, eokb1, sb, lb, sb1, lb1]
    by_cases aL : B1.length < B.length
    ·simp [aL, t41]
     exact ⟨cs.length - 1 - (i + 1), by omega, EH (i + 1) b1 B1 ((q1.trans hA).trans hT) hB1 (by simp [t0]) (by simp [t1]) (by simp [t6]) (by simp) (by simp [t39]) (by simp [t40]) (by simp [w41, -Int.natCast_add]) b9 rfl (by simp [fg])⟩
    ·simp [aL, t41]
     exact ⟨cs.length - 1 - (i + 1), by omega, EH (i + 1) b B ((q1.trans hA).trans hT) (q2.sub (hA.trans hT)) (by simp [t0]) (by simp [t1]) (by simp [t6]) (by simp [t7]) (by simp [t39]) (by simp [t40]) (by simp [w41, -Int.natCast_add]) b9 rfl (by simp [fg])⟩
   ·obtain rfl : i = cs.length - 1 := by omega
    simp [t0, t1, t6, t7, t39, t40, t41, sb, lb];obtain ⟨ok1, ok2⟩ := out_ok hx hmy q2;obtain ⟨c2, yW, hsubB, _⟩ := q2.2;have hBk : B.length ≤ X.k := Nat.le_trans hsubB.length_le (hx.nU c2.name);have hlB : ∀ i, (ml X cs (B.take i)).length ≤ B.length := fun i => by
     unfold ml;rw [List.length_map];exact Nat.le_trans (List.length_filter_le _ _) (by rw [List.length_take]; omega)
    have ob := aW q2.1;refine aB (q2H S' X p b cs B) B.length (EG 0 .aH (Sub.refl S') Own.nil (by simp [t0]) (by simp [t1]) (by simp [t6]) (by simp [t7]) (by simp) (by simp) (Nat.zero_le _) rfl (by simp [fg])) ?_
    clear t0 t1 t6 t7 t39 t40 t41 fg
    rintro k2 F2 V df ⟨j, v, p1, p2, t0, t1, t6, t61, t62, t63, hj, xy, fg⟩
    clear df;have hSV := q1.trans p1;have hV := h.sub hSV;have hb := q2.sub p1
    by_cases rI : j < B.length
    ·have hxj : B[j]? = some B[j] := List.getElem?_eq_getElem rI
     have iu := cz (cx := C1) (e := 80) hb.1 bF (by omega) hxj o_ag80 o_sz80
     have pD : B.take (j + 1) = B.take j ++ [B[j]] := List.take_succ_eq_append_getElem rI;have dj : B[j] ∈ B := List.getElem_mem rI;generalize B[j] = x at hxj iu pD dj;obtain ⟨ev, he, hen, _⟩ := (hV.xG c2.name x).1 (hsubB.subset dj);obtain ⟨A, eA⟩ : ∃ A : AS, A = ⟨(V.h.set V.next (.row [.int .i64 0, .int .i64 0, .str [], .bool false, .int .u64 0] 0 0 false 80)).set V.next (.row (bB x) 0 0 false 80), V.next + 1⟩ := ⟨_, rfl⟩;have hA : Sub V A := by rw [eA]; exact jf
     have nA : A.next = V.next + 1 := by rw [eA]
     have gA : A.h.get V.next = some (.row (bB x) 0 0 false 80) := by rw [eA]; exact aa _ _ _
     have DS := hV.sub hA;have xA := DS.x;have lkA : kr C1 A 70 (.map X.me) (.int .u64 (x.n : Int)) false = some (.agg [.str ev.key, ev.u]) := by
      rw [lA (cx := C1) (t := 70) (k := x.n) (ok := false) vr vI (DS.em.mp DS.Bl), Af, ← hen, uI DS he]
      rfl
     have xD := DS.kK ev he;obtain ⟨w, T, ⟨rfl, hT⟩, e3⟩ := (D2 (matches_ (key := ev.key) (hp.sub (hSV.trans hA)) xD)).ex;have hVT := hA.trans hT;have gT : T.h.get V.next = some (.row (bB x) 0 0 false 80) := by rw [hT.h _ (by omega)]; exact gA
     have hTn : V.next + 1 ≤ T.next := by have := hT.next; omega
     have ecu := xD.sl.cells;have w63 := aN (show j < 9223372036854775807 by omega)
     have opw := aW hp.sl;have gr : ml X cs [x] = if di cs ev.ar = true then [x.n] else [] := by
      have hfind : X.eb.find? (fun e => decide (e.n = x.n)) = some ev := by rw [← hen]; exact uI hV he
      unfold ml
      cases CG : di cs ev.ar <;> simp [hfind, CG]
     have uf := p2.sub hVT;simp only [bB, aS, List.cons_append, List.nil_append] at iu eA gA gT;simp [t0, t1, t6, t61, t62, t63, rI, sb, lb, iu, fg, ← eA];refine aA [.p, .p, .p, .p, .r 0 0, .p, .r 0 0, .r 0 0, .e []] (n := 85) (by kernel_rfl) (by simp [fg]) ?_
     cases CG : di cs ev.ar with
     | true =>
      rw [CG] at e3 gr;simp only [if_true] at gr;obtain ⟨v', U, a1, a2, a3, a4, _⟩ := qk (cx := C1) (t := 38) (u := 38) (ts := []) (p := (30, 1, 8)) (y := .int .u64 (x.n : Int)) o_st38 rfl o_un38 rfl uf (Nat.le_trans p1.next hVT.next) (by
       rw [ek];unfold fits;have h1 := hlB j;simp only [cg, Bool.and_eq_true, decide_eq_true_eq];have : ((ml X cs (B.take j)).length + 1).mul 8 = ((ml X cs (B.take j)).length + 1) * 8 := rfl
       constructor <;> omega)
      simp [t0, t1, t6, t61, t62, t63, fg, xA, gA, lkA, nS, e3, gT, ecu, opw, uf.sl.cells, a1];have hSU : Sub S' U := ⟨fun id bY => (a3.h id bY).trans ((p1.trans hVT).h id bY), Nat.le_trans (p1.trans hVT).next a3.next⟩
      refine ⟨B.length - (j + 1), by omega, EG (j + 1) v' hSU ?_ (by simp [t0]) (by simp [t1]) (by simp) (by simp [t61]) (by simp [t62]) (by simp [w63, -Int.natCast_add]) rI rfl (by simp [fg])⟩
      rw [pD, yz, gr];have : cI (ml X cs (B.take j) ++ [x.n]) = cI (ml X cs (B.take j)) ++ [.int .u64 (x.n : Int)] := by simp [cI]
      rw [this]; exact a2
     | false =>
      rw [CG] at e3 gr;simp only [Bool.false_eq_true, if_false] at gr;simp [t0, t1, t6, t61, t62, t63, fg, xA, gA, lkA, nS, e3, gT, ecu, opw];exact ⟨B.length - (j + 1), by omega, EG (j + 1) v (p1.trans hVT) (by rw [pD, yz, gr, List.append_nil]; exact uf) (by simp [t0]) (by simp [t1]) (by simp [t6]) (by simp [t61]) (by simp [t62]) (by simp [w63, -Int.natCast_add]) rI rfl (by simp [fg])⟩
    ·obtain rfl : j = B.length := by omega
     rw [List.take_length] at p2;obtain ⟨w, U, ⟨rfl, d', d1, d2, d3, d4⟩, e3⟩ := (D2 (yh (own_num p2) (by have := hlB B.length; rw [List.take_length] at this; simp; omega))).ex
     have hs1 := p2.sl.cells;have hs2 := p2.sl.np;simp [t0, t1, t6, t61, t62, t63, nS, e3, hs1, hs2];have hpm := perm_of d1;simp only [List.toList_toArray] at hpm;have fi : d'.size = (ml X cs B).toArray.size := d1.1;have hnd : d'.toList.Nodup := hpm.nodup_iff.2 ok1;have hso := yg (d := d') (by rw [fi]; exact d2)
     refine ⟨⟨fun id bY => ?_, Nat.le_trans hSV.next d4.next⟩, .inr ⟨hm, v, d'.toList, rfl, d3.gw.1, (hso.and hnd).imp (fun ⟨a, b⟩ => by omega), ?_, fun n => ?_⟩⟩
     ·rw [d4.h id (by have := hSV.next; omega) (fun hb => by
       rcases p2.og with h1 | h1
       ·omega
       ·have := q1.next; omega)]
      exact hSV.h id bY
     ·rw [hpm.length_eq]
      have := hlB B.length;rw [List.take_length] at this;omega
     ·rw [hpm.mem_iff]; exact ok2 n
end
end Go.Proofs.YtfempihpphbgmaaGreat.idx
end
