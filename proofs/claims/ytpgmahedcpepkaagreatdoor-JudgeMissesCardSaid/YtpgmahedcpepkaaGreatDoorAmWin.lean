/-
  The abstract machine: a region that draws its order and changes the memory: its plan, read off ahead; what is asked of its reading operations is asked where the memory turns.
-/
import Derived.Test.YtpgmahedcpepkaaGreatDoorAmStill
namespace Go.Am
open Go
set_option linter.unusedSimpArgs false

/-! ### Functions beside the plain values -/
def okW : AV → Bool
  | .func (.func _) a b => baseL a && baseL b
  | v => okV v
theorem okW_same (v : AV) (h : okW v = true) : sameVF 8 v v = true := by
  cases v <;> try exact okV_same _ h
  rename_i fn a b
  cases fn <;> try exact okV_same _ h
  simp only [okW, Bool.and_eq_true] at h
  rename_i f
  show (Nat.beq f f && sameLs 7 a a && sameLs 7 b b) = true
  rw [baseL_same 6 a h.1, baseL_same 6 b h.2]
  simp [nbeq]

/-- An operation's place in the plan: it gives a value; it lays a block; it reads (how many memories back, how many acts ahead it may stand as well); it acts (the blocks that are laid ahead of it). -/
inductive Pk where
  | p | f | r (back keep : Nat) | e (cm : List Nat)
structure Live where
  o : Oper
  v : AV
  n : Nat

def freshC : List Pk → Nat
  | [] => 0
  | .f :: l => freshC l + 1
  | .p :: l => freshC l
  | .r _ _ :: l => freshC l
  | .e _ :: l => freshC l
def memB (n : Nat) : List Nat → Bool
  | [] => false
  | m :: l => (n == m) || memB n l
noncomputable def comL (cm : List Nat) : List Pend → AS → AS
  | [], S => S
  | x :: ps, S => comL cm ps (if memB x.i cm = true then ⟨S.h.set x.id x.obj, S.next⟩ else S)
def leftL (cm : List Nat) : List Pend → List Pend
  | [] => []
  | x :: ps => if memB x.i cm = true then leftL cm ps else x :: leftL cm ps
noncomputable def comA : List Pend → AS → AS
  | [], S => S
  | x :: ps, S => comA ps ⟨S.h.set x.id x.obj, S.next⟩
def decL : List Live → List Live
  | [] => []
  | x :: l => match x.n with
    | 0 => decL l
    | 1 => decL l
    | n + 2 => ⟨x.o, x.v, n + 1⟩ :: decL l
def aopIs (r : AR) (v : AV) : Prop := match r with | .val u _ => u = v | _ => False
/-- The operation gives this value at this memory. -/
def reP (cx : Cx) (ops : List Oper) (F : Fr) (T : AS) (o : Oper) (v : AV) : Prop :=
  match wantS ops F o.guard with
  | some b => (b = true → aopIs (aop cx F T o) v) ∧ (b = false → v = .undef)
  | none => False
def reLive (cx : Cx) (ops : List Oper) (F : Fr) (T : AS) : List Live → Prop
  | [] => True
  | x :: l => reP cx ops F T x.o x.v ∧ reLive cx ops F T l
def reBack (cx : Cx) (ops : List Oper) (F : Fr) (o : Oper) (v : AV) : Nat → List AS → Prop
  | 0, _ => True
  | _ + 1, [] => True
  | n + 1, T :: sn => reP cx ops F T o v ∧ reBack cx ops F o v n sn
def okN (back keep : Nat) (v : AV) : Prop := match back, keep with | 0, 0 => True | _, _ => okW v = true
def liveN (o : Oper) (v : AV) (keep : Nat) (lv : List Live) : List Live := match keep with | 0 => lv | n + 1 => ⟨o, v, n + 1⟩ :: lv
/-- A value, or a skipped operation. -/
def valP (r : AR) (K : AV → Prop) : Prop := match r with | .val v _ => K v | _ => False
def stepV (cx : Cx) (ops : List Oper) (o : Oper) (F : Fr) (S : AS) (K : AV → Prop) : Prop :=
  match wantS ops F o.guard with
  | some b => (b = true → valP (aop cx F S o) K) ∧ (b = false → K .undef)
  | none => False
def freP (r : Option (AV × AObj)) (K : AV → AObj → Prop) : Prop := match r with | some (v, x) => K v x | none => False
def stepA (cx : Cx) (ops : List Oper) (o : Oper) (F : Fr) (id : Nat) (K : AV → AObj → Prop) (J : Prop) : Prop :=
  match wantS ops F o.guard with
  | some b => (b = true → freP (freshV cx F id o.op) K) ∧ (b = false → J)
  | none => False

def rowsW (cx : Cx) (ops : List Oper) : List Pk → List Oper → Nat → Fr → AS → List Pend → List AS → List Live → Nat → (Fr → AS → Prop) → Prop
  | [], [], _, F, S, ps, _, _, _, Q => Q F (comA ps S)
  | .p :: pl, o :: l, i, F, S, ps, sn, lv, id, Q => stepV cx ops o F S fun v => rowsW cx ops pl l (i + 1) (up F o.dst v) S ps sn lv id Q
  | .r b k :: pl, o :: l, i, F, S, ps, sn, lv, id, Q => stepV cx ops o F S fun v => reBack cx ops F o v b sn ∧ okN b k v ∧ rowsW cx ops pl l (i + 1) (up F o.dst v) S ps sn (liveN o v k lv) id Q
  | .f :: pl, o :: l, i, F, S, ps, sn, lv, id, Q => stepA cx ops o F id (fun v x => rowsW cx ops pl l (i + 1) (up F o.dst v) S (⟨i, id, x⟩ :: ps) sn lv (id + 1) Q) (rowsW cx ops pl l (i + 1) (up F o.dst .undef) S ps sn lv id Q)
  | .e cm :: pl, o :: l, i, F, S, ps, sn, lv, id, Q => stepP cx ops o F (comL cm ps S) fun v S' => reLive cx ops F S' lv ∧ rowsW cx ops pl l (i + 1) (up F o.dst v) S' (leftL cm ps) (S :: sn) (decL lv) id Q
  | _, _, _, _, _, _, _, _, _, _ => False

/-! ### The plan, checked -/
noncomputable def loN (rows : List Row) (r : Row) : Nat := countL (fun e => bit r.bef e.i) (filL (fun e => isEff e.cls) rows)
noncomputable def hiN (rows : List Row) (r : Row) : Nat := loN rows r + Nat.sub (countL (fun e => !bit e.bef r.i) (filL (fun e => isEff e.cls) rows)) (loN rows r)
noncomputable def matchPl (rows : List Row) : List Row → List Pk → Nat → Bool
  | [], [], _ => true
  | r :: l, .p :: pl, k => (match r.cls with | .pure => true | _ => false) && matchPl rows l pl k
  | r :: l, .f :: pl, k => isFresh r.cls && matchPl rows l pl k
  | r :: l, .r b n :: pl, k => isRead r.cls && Nat.ble (loN rows r) k && Nat.beq b (k - loN rows r) && Nat.beq n (hiN rows r - k) && matchPl rows l pl k
  | r :: l, .e cm :: pl, k => isEff r.cls && allL (fun f => cond (isFresh f.cls) (cond (memB f.i cm) (bit r.bef f.i) (!bit r.bef f.i)) true) rows && matchPl rows l pl (k + 1)
  | _, _, _ => false
noncomputable def calmB (ops : List Oper) : List Row → Bool
  | [] => true
  | r :: l => cond (isRead r.cls) (match r.o.dst with
    | some d => !memN d (seesL ops r.o) && allL (fun w => match w.o.dst with | some e => !Nat.beq e d && !memN e (seesL ops r.o) | none => true) l
    | none => false) true && calmB ops l
noncomputable def planIs (cx : Cx) (n : Nat) (ops : List Oper) (pl : List Pk) : Bool :=
  planOk ops (settle (rowsL cx ops)) && calmB ops (settle (rowsL cx ops)) && dstRows n (settle (rowsL cx ops)) && matchPl (settle (rowsL cx ops)) (settle (rowsL cx ops)) pl 0

theorem memB_mem (n : Nat) : ∀ l : List Nat, memB n l = true ↔ n ∈ l
  | [] => by simp [memB]
  | m :: l => by simp [memB, memB_mem n l]
theorem comA_eq : ∀ (ps : List Pend) (S : AS), comA ps S = commit (fun _ => true) ps S
  | [], _ => rfl
  | x :: ps, S => by
    show comA ps _ = commit (fun _ => true) ps (cond true _ _)
    rw [comA_eq ps]; rfl
theorem comL_eq {cm : List Nat} {m : Nat} : ∀ {ps : List Pend} {S : AS}, (∀ x, x ∈ ps → memB x.i cm = bit m x.i) → comL cm ps S = commit (fun p => bit m p.i) ps S ∧ leftL cm ps = filL (fun p => !bit m p.i) ps
  | [], S, _ => ⟨rfl, rfl⟩
  | x :: ps, S, h => by
    have hx := h x (List.mem_cons_self ..)
    obtain ⟨h1, h2⟩ := comL_eq (ps := ps) (S := if memB x.i cm = true then ⟨S.h.set x.id x.obj, S.next⟩ else S) fun y hy => h y (List.mem_cons_of_mem _ hy)
    constructor
    · show comL cm ps _ = commit (fun p => bit m p.i) ps (cond (bit m x.i) _ S)
      rw [h1, ← hx]
      cases memB x.i cm <;> rfl
    · show leftL cm (x :: ps) = cond (!bit m x.i) (x :: filL (fun p => !bit m p.i) ps) (filL (fun p => !bit m p.i) ps)
      rw [leftL, h2, ← hx]
      cases memB x.i cm <;> rfl

theorem reP_one {cx : Cx} {ops : List Oper} {F : Fr} {T : AS} {o : Oper} {v : AV} (h : reP cx ops F T o v) : oneV cx ops F T o = some v := by
  unfold reP at h
  rw [oneV_eq]
  cases hw : wantS ops F o.guard with
  | none => rw [hw] at h; exact h.elim
  | some b =>
    rw [hw] at h
    cases b with
    | true =>
      have h1 := h.1 rfl
      unfold aopIs at h1
      simp only []
      cases ha : aop cx F T o <;> rw [ha] at h1 <;> first | exact h1.elim | exact congrArg some h1
    | false => rw [h.2 rfl]
theorem stepV_one {cx : Cx} {ops : List Oper} {F : Fr} {S : AS} {o : Oper} {K : AV → Prop} (h : stepV cx ops o F S K) : ∃ v, oneV cx ops F S o = some v ∧ K v := by
  unfold stepV at h
  rw [oneV_eq]
  cases hw : wantS ops F o.guard with
  | none => rw [hw] at h; exact h.elim
  | some b =>
    rw [hw] at h
    cases b with
    | true =>
      have h1 := h.1 rfl
      unfold valP at h1
      simp only []
      cases ha : aop cx F S o <;> rw [ha] at h1 <;> first | exact h1.elim | exact ⟨_, rfl, h1⟩
    | false => exact ⟨_, rfl, h.2 rfl⟩

/-- What is known of the reading operations that are done. -/
def Seen (cx : Cx) (ops : List Oper) (rows : List Row) (P : List Row) (F : Fr) (S : AS) (sn : List AS) (lv : List Live) : Prop :=
  ∀ q, q ∈ P → isRead q.cls = true → ∃ d v, q.o.dst = some d ∧ F.t.get d = some v ∧ (loN rows q < hiN rows q → okW v = true) ∧
    (∀ j T, loN rows q ≤ j → j ≤ hiN rows q → (S :: sn).reverse[j]? = some T → oneV cx ops F T q.o = some v) ∧
    (sn.length < hiN rows q → ∃ x, x ∈ lv ∧ x.o = q.o ∧ x.v = v ∧ x.n = hiN rows q - sn.length)

theorem reLive_mem {cx : Cx} {ops : List Oper} {F : Fr} {T : AS} {lv : List Live} (h : reLive cx ops F T lv) : ∀ x, x ∈ lv → reP cx ops F T x.o x.v := by
  induction lv with
  | nil => intro x hx; cases hx
  | cons y l ih =>
    intro x hx
    rcases List.mem_cons.1 hx with e | hx
    · rw [e]; exact h.1
    · exact ih h.2 x hx
theorem decL_mem {lv : List Live} {x : Live} (hx : x ∈ lv) (hn : 1 < x.n) : ∃ y, y ∈ decL lv ∧ y.o = x.o ∧ y.v = x.v ∧ y.n = x.n - 1 := by
  induction lv with
  | nil => cases hx
  | cons a l ih =>
    rcases List.mem_cons.1 hx with e | hx
    · subst e
      obtain ⟨o, v, n⟩ := x
      match n, hn with
      | n + 2, _ => exact ⟨⟨o, v, n + 1⟩, List.mem_cons_self .., rfl, rfl, by simp⟩
    · obtain ⟨y, h1, h2⟩ := ih hx
      refine ⟨y, ?_, h2⟩
      obtain ⟨o, v, n⟩ := a
      match n with
      | 0 => exact h1
      | 1 => exact h1
      | n + 2 => exact List.mem_cons_of_mem _ h1
theorem reBack_get {cx : Cx} {ops : List Oper} {F : Fr} {o : Oper} {v : AV} : ∀ {n : Nat} {sn : List AS}, reBack cx ops F o v n sn → ∀ i T, i < n → sn[i]? = some T → reP cx ops F T o v
  | n + 1, T :: sn, h, 0, T', _, ht => by simp at ht; subst ht; exact h.1
  | n + 1, T :: sn, h, i + 1, T', hi, ht => reBack_get h.2 i T' (by omega) (by simpa using ht)

theorem rows_win {cx : Cx} {ops : List Oper} {rows : List Row} {n : Nat} {Q : Fr → AS → Prop} : ∀ (l : List Row) (pl : List Pk) (P : List Row) (F : Fr) (S : AS) (ps : List Pend) (sn : List AS) (lv : List Live) (id : Nat),
    rows = P ++ l → F.n = n → dstRows n rows = true → calmB ops l = true → (∀ (i : Nat) (r : Row), rows[i]? = some r → r.i = i) → matchPl rows l pl sn.length = true →
    (∀ r, r ∈ P → isRead r.cls = true → ∀ w, w ∈ l → ∀ e, w.o.dst = some e → some e ≠ r.o.dst ∧ e ∉ seesL ops r.o) →
    (∀ x, x ∈ ps → ∃ f, f ∈ rows ∧ isFresh f.cls = true ∧ f.i = x.i) →
    Seen cx ops rows P F S sn lv → rowsW cx ops pl (l.map (·.o)) P.length F S ps sn lv id Q →
    rowsP cx ops l F S ps sn id fun F' S' sn' => winP cx ops rows F' (revL sn') ∧ Q F' S'
  | [], pl, P, F, S, ps, sn, lv, id, hrows, hn, hd, _, _, hm, _, _, hs, h => by
    have hpl : pl = [] := by
      cases pl with
      | nil => rfl
      | cons a pl => cases a <;> cases hm
    subst hpl
    have h' : Q F (comA ps S) := h
    rw [comA_eq] at h'
    refine ⟨?_, h'⟩
    intro q hq hr
    rw [hrows, List.append_nil] at hq
    obtain ⟨d, v, e1, e2, e3, e4, _⟩ := hs q hq hr
    have hdn : d < F.n := by
      rw [hn]
      have := List.all_eq_true.1 hd q (by rw [hrows, List.append_nil]; exact hq)
      unfold dst1 at this
      rw [e1] at this
      simpa [nblt] using this
    unfold windowOk
    simp only []
    have hall : ∀ T, T ∈ takeN (Nat.succ (Nat.sub (countL (fun e => !bit e.bef q.i) (filL (fun e => isEff e.cls) rows)) (countL (fun e => bit q.bef e.i) (filL (fun e => isEff e.cls) rows)))) (dropN (countL (fun e => bit q.bef e.i) (filL (fun e => isEff e.cls) rows)) (revL (S :: sn))) → oneV cx ops F T q.o = some v := by
      intro T hT
      rw [takeN_eq, dropN_eq, revL_eq] at hT
      obtain ⟨i, hi⟩ := List.getElem?_of_mem hT
      rw [List.getElem?_take] at hi
      split at hi
      · rename_i hlt
        rw [List.getElem?_drop] at hi
        exact e4 (loN rows q + i) T (Nat.le_add_right _ _) (by unfold hiN; have := Nat.le_of_lt_succ hlt; unfold loN at *; omega) hi
      · cases hi
    split
    · rfl
    · rename_i hne
      simp only [e1, nblt, hdn, decide_true, cond_true, e2]
      rw [allL_all]
      intro T hT
      rw [hall T hT]
      refine okW_same v (e3 ?_)
      rcases Nat.lt_or_ge (loN rows q) (hiN rows q) with h0 | h0
      · exact h0
      · exfalso
        have hz : Nat.sub (countL (fun e => !bit e.bef q.i) (filL (fun e => isEff e.cls) rows)) (loN rows q) = 0 := by unfold hiN at h0; omega
        unfold loN at hz
        rw [hz, takeN_eq, dropN_eq] at hT hne
        generalize hL : List.drop (countL (fun e => bit q.bef e.i) (filL (fun e => isEff e.cls) rows)) (revL (S :: sn)) = L at hT hne
        cases L with
        | nil => simp at hT
        | cons a L => exact hne a (by simp)
  | r :: l, pl, P, F, S, ps, sn, lv, id, hrows, hn, hd, hb, hi, hm, hw, hps, hs, h => by
    simp only [calmB, Bool.and_eq_true] at hb
    obtain ⟨hb1, hb2⟩ := hb
    have hrows' : rows = (P ++ [r]) ++ l := by rw [hrows]; simp
    have hri : r.i = P.length := hi P.length r (by rw [hrows]; simp)
    have hlenP : (P ++ [r]).length = P.length + 1 := by simp
    -- slots that are kept
    have hget : ∀ q, q ∈ P → isRead q.cls = true → ∀ (v : AV) t, (q.o.dst = some t ∨ t ∈ seesL ops q.o) → (up F r.o.dst v).t.get t = F.t.get t := by
      intro q hq hqr v t ht
      refine get_up_ne fun e => ?_
      obtain ⟨k1, k2⟩ := hw q hq hqr r (List.mem_cons_self ..) t e
      rcases ht with ht | ht
      · exact k1 ht.symm
      · exact k2 ht
    have hw2 : ∀ q, q ∈ P ++ [r] → isRead q.cls = true → ∀ w, w ∈ l → ∀ e, w.o.dst = some e → some e ≠ q.o.dst ∧ e ∉ seesL ops q.o := by
      intro q hq hqr w hwl e he
      rcases List.mem_append.1 hq with hq | hq
      · exact hw q hq hqr w (List.mem_cons_of_mem _ hwl) e he
      · rw [List.mem_singleton] at hq
        subst hq
        rw [hqr] at hb1
        simp only [cond_true] at hb1
        cases hdq : q.o.dst with
        | none => rw [hdq] at hb1; cases hb1
        | some d =>
          rw [hdq] at hb1
          simp only [Bool.and_eq_true, Bool.not_eq_true'] at hb1
          obtain ⟨_, h2⟩ := hb1
          rw [allL_all] at h2
          have := h2 w hwl
          rw [he] at this
          simp only [nbeq, Bool.and_eq_true, Bool.not_eq_true', decide_eq_false_iff_not] at this
          refine ⟨fun e' => this.1 (by cases e'; rfl), fun e' => ?_⟩
          have h3 := (memN_mem _ _).2 e'
          rw [h3] at this
          cases this.2
    -- the old ones, behind a step that leaves the memory
    have carry : ∀ (v : AV) (lv2 : List Live), (∀ x, x ∈ lv → x ∈ lv2) → ∀ q, q ∈ P → isRead q.cls = true → ∃ d u, q.o.dst = some d ∧ (up F r.o.dst v).t.get d = some u ∧ (loN rows q < hiN rows q → okW u = true) ∧
        (∀ j T, loN rows q ≤ j → j ≤ hiN rows q → (S :: sn).reverse[j]? = some T → oneV cx ops (up F r.o.dst v) T q.o = some u) ∧
        (sn.length < hiN rows q → ∃ x, x ∈ lv2 ∧ x.o = q.o ∧ x.v = u ∧ x.n = hiN rows q - sn.length) := by
      intro v lv2 hl2 q hq hqr
      obtain ⟨d, u, k1, k2, k3, k4, k5⟩ := hs q hq hqr
      refine ⟨d, u, k1, by rw [hget q hq hqr v d (.inl k1)]; exact k2, k3, fun j T h1 h2 h3 => ?_, fun hh => ?_⟩
      · rw [← k4 j T h1 h2 h3]
        exact oneV_congr fun t ht => hget q hq hqr v t (.inr ht)
      · obtain ⟨x, x1, x2⟩ := k5 hh
        exact ⟨x, hl2 x x1, x2⟩
    cases pl with
    | nil => cases hm
    | cons a pl =>
      cases a with
      | p =>
        have hm' : ((match r.cls with | .pure => true | _ => false) && matchPl rows l pl sn.length) = true := hm
        rw [Bool.and_eq_true] at hm'
        have hc : r.cls = .pure := by cases hcc : r.cls <;> rw [hcc] at hm' <;> first | rfl | (cases hm'.1)
        obtain ⟨v, hv, hk⟩ := stepV_one (show stepV cx ops r.o F S _ from h)
        have hseen : Seen cx ops rows (P ++ [r]) (up F r.o.dst v) S sn lv := by
          intro q hq hqr
          rcases List.mem_append.1 hq with hq | hq
          · exact carry v lv (fun _ hx => hx) q hq hqr
          · rw [List.mem_singleton] at hq; subst hq; rw [hc] at hqr; cases hqr
        have ih := rows_win l pl (P ++ [r]) (up F r.o.dst v) S ps sn lv id hrows' (by rw [n_up]; exact hn) hd hb2 hi hm'.2 hw2 hps hseen (by rw [hlenP]; exact hk)
        rw [rowsP, hc]
        simp only []
        rw [oneV_eq] at hv
        cases hww : wantS ops F r.o.guard with
        | none => rw [hww] at hv; cases hv
        | some b =>
          rw [hww] at hv
          cases b with
          | true =>
            refine ⟨fun _ => ?_, fun e => by cases e⟩
            simp only [] at hv
            cases ha : aop cx F S r.o <;> rw [ha] at hv <;> first | (cases hv; done) | skip
            cases hv
            exact ⟨_, _, rfl, ih⟩
          | false =>
            refine ⟨fun e => (by cases e), fun _ => ?_⟩
            cases hv
            exact ih
      | r bk kp =>
        have hm' : (isRead r.cls && Nat.ble (loN rows r) sn.length && Nat.beq bk (sn.length - loN rows r) && Nat.beq kp (hiN rows r - sn.length) && matchPl rows l pl sn.length) = true := hm
        simp only [Bool.and_eq_true, nble, nbeq, decide_eq_true_eq] at hm'
        obtain ⟨⟨⟨⟨hrd, hlo⟩, hbk⟩, hkp⟩, hm'⟩ := hm'
        have hc : r.cls = .read := by cases hcc : r.cls <;> rw [hcc] at hrd <;> first | rfl | (cases hrd)
        obtain ⟨v, hv, hbb, hok, hk⟩ := stepV_one (show stepV cx ops r.o F S _ from h)
        rw [hrd] at hb1
        simp only [cond_true] at hb1
        have hseen : Seen cx ops rows (P ++ [r]) (up F r.o.dst v) S sn (liveN r.o v kp lv) := by
          intro q hq hqr
          rcases List.mem_append.1 hq with hq | hq
          · refine carry v _ (fun x hx => ?_) q hq hqr
            cases kp with
            | zero => exact hx
            | succ m => exact List.mem_cons_of_mem _ hx
          · rw [List.mem_singleton] at hq
            subst hq
            cases hdq : q.o.dst with
            | none => rw [hdq] at hb1; cases hb1
            | some d =>
              rw [hdq] at hb1
              simp only [Bool.and_eq_true, Bool.not_eq_true'] at hb1
              have hcong : ∀ T, oneV cx ops (up F (some d) v) T q.o = oneV cx ops F T q.o := by
                intro T
                refine oneV_congr fun t ht => get_up_ne fun e => ?_
                cases e
                rw [(memN_mem _ _).2 ht] at hb1
                cases hb1.1
              refine ⟨d, v, rfl, get_up_same, fun hlt => ?_, fun j T h1 h2 h3 => ?_, fun hlt => ?_⟩
              · unfold okN at hok
                split at hok
                · omega
                · exact hok
              · rw [hcong]
                have hj : j < (S :: sn).reverse.length := (List.getElem?_eq_some_iff.1 h3).1
                simp only [List.length_reverse, List.length_cons] at hj
                rw [List.getElem?_reverse (by simpa using hj)] at h3
                simp only [List.length_cons] at h3
                by_cases he : j = sn.length
                · subst he
                  simp at h3
                  subst h3
                  exact hv
                · have e1 : sn.length + 1 - 1 - j = (sn.length - 1 - j) + 1 := by omega
                  rw [e1, List.getElem?_cons_succ] at h3
                  exact reP_one (reBack_get hbb _ T (by omega) h3)
              · obtain ⟨m, hm0⟩ : ∃ m, kp = m + 1 := ⟨kp - 1, by omega⟩
                subst hm0
                exact ⟨⟨q.o, v, m + 1⟩, List.mem_cons_self .., rfl, rfl, hkp⟩
        have ih := rows_win l pl (P ++ [r]) (up F r.o.dst v) S ps sn _ id hrows' (by rw [n_up]; exact hn) hd hb2 hi hm' hw2 hps hseen (by rw [hlenP]; exact hk)
        rw [rowsP, hc]
        simp only []
        rw [oneV_eq] at hv
        cases hww : wantS ops F r.o.guard with
        | none => rw [hww] at hv; cases hv
        | some b =>
          rw [hww] at hv
          cases b with
          | true =>
            refine ⟨fun _ => ?_, fun e => by cases e⟩
            simp only [] at hv
            cases ha : aop cx F S r.o <;> rw [ha] at hv <;> first | (cases hv; done) | skip
            cases hv
            exact ⟨_, _, rfl, ih⟩
          | false =>
            refine ⟨fun e => (by cases e), fun _ => ?_⟩
            cases hv
            exact ih
      | f =>
        have hm' : (isFresh r.cls && matchPl rows l pl sn.length) = true := hm
        rw [Bool.and_eq_true] at hm'
        have hc : r.cls = .fresh := by cases hcc : r.cls <;> rw [hcc] at hm' <;> first | rfl | (cases hm'.1)
        have h' : stepA cx ops r.o F id (fun v x => rowsW cx ops pl (l.map (·.o)) (P.length + 1) (up F r.o.dst v) S (⟨P.length, id, x⟩ :: ps) sn lv (id + 1) Q) (rowsW cx ops pl (l.map (·.o)) (P.length + 1) (up F r.o.dst .undef) S ps sn lv id Q) := h
        have hseen : ∀ v, Seen cx ops rows (P ++ [r]) (up F r.o.dst v) S sn lv := by
          intro v q hq hqr
          rcases List.mem_append.1 hq with hq | hq
          · exact carry v lv (fun _ hx => hx) q hq hqr
          · rw [List.mem_singleton] at hq; subst hq; rw [hc] at hqr; cases hqr
        rw [rowsP, hc]
        simp only []
        unfold stepA at h'
        cases hww : wantS ops F r.o.guard with
        | none => rw [hww] at h'; exact h'.elim
        | some b =>
          rw [hww] at h'
          cases b with
          | true =>
            refine ⟨fun _ => ?_, fun e => by cases e⟩
            have h1 := h'.1 rfl
            unfold freP at h1
            cases hf : freshV cx F id r.o.op with
            | none => rw [hf] at h1; exact h1.elim
            | some vx =>
              obtain ⟨v, x⟩ := vx
              rw [hf] at h1
              refine ⟨v, x, rfl, ?_⟩
              rw [hri]
              refine rows_win l pl (P ++ [r]) (up F r.o.dst v) S _ sn lv (id + 1) hrows' (by rw [n_up]; exact hn) hd hb2 hi hm'.2 hw2 (fun y hy => ?_) (hseen v) (by rw [hlenP]; exact h1)
              rcases List.mem_cons.1 hy with rfl | hy
              · exact ⟨r, by rw [hrows]; simp, hm'.1, hri⟩
              · exact hps y hy
          | false =>
            refine ⟨fun e => (by cases e), fun _ => ?_⟩
            exact rows_win l pl (P ++ [r]) (up F r.o.dst .undef) S ps sn lv id hrows' (by rw [n_up]; exact hn) hd hb2 hi hm'.2 hw2 hps (hseen _) (by rw [hlenP]; exact h'.2 rfl)
      | e cm =>
        have hm' : (isEff r.cls && allL (fun f => cond (isFresh f.cls) (cond (memB f.i cm) (bit r.bef f.i) (!bit r.bef f.i)) true) rows && matchPl rows l pl (sn.length + 1)) = true := hm
        simp only [Bool.and_eq_true] at hm'
        obtain ⟨⟨hef, hcm⟩, hm'⟩ := hm'
        have hc : r.cls = .eff := by cases hcc : r.cls <;> rw [hcc] at hef <;> first | rfl | (cases hef)
        rw [allL_all] at hcm
        have hcm' : ∀ x, x ∈ ps → memB x.i cm = bit r.bef x.i := by
          intro x hx
          obtain ⟨f, f1, f2, f3⟩ := hps x hx
          have := hcm f f1
          rw [f2] at this
          simp only [cond_true, f3] at this
          cases hmm : memB x.i cm <;> rw [hmm] at this <;> cases hbb : bit r.bef x.i <;> rw [hbb] at this <;> first | rfl | (cases this)
        obtain ⟨c1, c2⟩ := comL_eq (S := S) hcm'
        have h' : stepP cx ops r.o F (comL cm ps S) fun v S' => reLive cx ops F S' lv ∧ rowsW cx ops pl (l.map (·.o)) (P.length + 1) (up F r.o.dst v) S' (leftL cm ps) (S :: sn) (decL lv) id Q := h
        rw [rowsP, hc]
        simp only []
        rw [c1] at h'
        refine stepP_mono h' ?_
        rintro v S' ⟨hre, hk⟩
        rw [← c2]
        refine rows_win l pl (P ++ [r]) (up F r.o.dst v) S' (leftL cm ps) (S :: sn) (decL lv) id hrows' (by rw [n_up]; exact hn) hd hb2 hi hm' hw2 (fun x hx => ?_) ?_ (by rw [hlenP]; exact hk)
        · have : x ∈ ps := by
            rw [c2, filL_eq] at hx
            exact (List.mem_filter.1 hx).1
          exact hps x this
        · intro q hq hqr
          rcases List.mem_append.1 hq with hq | hq
          · obtain ⟨d, u, k1, k2, k3, k4, k5⟩ := hs q hq hqr
            have hcong : ∀ T, oneV cx ops (up F r.o.dst v) T q.o = oneV cx ops F T q.o := fun T => oneV_congr fun t ht => hget q hq hqr v t (.inr ht)
            refine ⟨d, u, k1, by rw [hget q hq hqr v d (.inl k1)]; exact k2, k3, fun j T h1 h2 h3 => ?_, fun hh => ?_⟩
            · rw [hcong]
              rw [List.reverse_cons] at h3
              by_cases hj : j < (S :: sn).reverse.length
              · rw [List.getElem?_append_left hj] at h3
                exact k4 j T h1 h2 h3
              · have hj2 : j = sn.length + 1 := by
                  have := (List.getElem?_eq_some_iff.1 h3).1
                  simp at this hj
                  omega
                subst hj2
                rw [List.getElem?_append_right (by simp)] at h3
                simp at h3
                subst h3
                obtain ⟨x, x1, x2, x3, _⟩ := k5 (by omega)
                have := reLive_mem hre x x1
                rw [x2, x3] at this
                exact reP_one this
            · simp only [List.length_cons] at hh
              obtain ⟨x, x1, x2, x3, x4⟩ := k5 (by omega)
              obtain ⟨y, y1, y2, y3, y4⟩ := decL_mem x1 (by omega)
              exact ⟨y, y1, y2.trans x2, y3.trans x3, by rw [y4, x4]; simp only [List.length_cons]; omega⟩
          · rw [List.mem_singleton] at hq; subst hq; rw [hc] at hqr; cases hqr

theorem freshC_match {rows : List Row} : ∀ (l : List Row) (pl : List Pk) (k : Nat), matchPl rows l pl k = true → freshN l = freshC pl
  | [], [], _, _ => rfl
  | [], a :: pl, k, h => by cases a <;> cases h
  | r :: l, [], k, h => by cases h
  | r :: l, a :: pl, k, h => by
    have e : freshN (r :: l) = cond (isFresh r.cls) (Nat.succ (freshN l)) (freshN l) := rfl
    cases a with
    | p =>
      have hm' : ((match r.cls with | .pure => true | _ => false) && matchPl rows l pl k) = true := h
      rw [Bool.and_eq_true] at hm'
      have hc : isFresh r.cls = false := by cases hcc : r.cls <;> rw [hcc] at hm' <;> first | rfl | (cases hm'.1)
      rw [e, hc, freshC_match l pl k hm'.2]; rfl
    | r b n =>
      have hm' : (isRead r.cls && Nat.ble (loN rows r) k && Nat.beq b (k - loN rows r) && Nat.beq n (hiN rows r - k) && matchPl rows l pl k) = true := h
      simp only [Bool.and_eq_true] at hm'
      have hc : isFresh r.cls = false := by cases hcc : r.cls <;> rw [hcc] at hm' <;> first | rfl | (cases hm'.1.1.1.1)
      rw [e, hc, freshC_match l pl k hm'.2]; rfl
    | f =>
      have hm' : (isFresh r.cls && matchPl rows l pl k) = true := h
      rw [Bool.and_eq_true] at hm'
      rw [e, hm'.1, freshC_match l pl k hm'.2]; rfl
    | e cm =>
      have hm' : (isEff r.cls && allL (fun f => cond (isFresh f.cls) (cond (memB f.i cm) (bit r.bef f.i) (!bit r.bef f.i)) true) rows && matchPl rows l pl (k + 1)) = true := h
      simp only [Bool.and_eq_true] at hm'
      have hc : isFresh r.cls = false := by cases hcc : r.cls <;> rw [hcc] at hm' <;> first | rfl | (cases hm'.1.1)
      rw [e, hc, freshC_match l pl (k + 1) hm'.2]; rfl

theorem draws {cx : Cx} {ops : List Oper} {F : Fr} {S : AS} {Q : Fr → AS → Prop} {n : Nat} (pl : List Pk) (hk : planIs cx n ops pl = true) (hn : F.n = n)
    (h : rowsW cx ops pl ops 0 F ⟨S.h, S.next + freshC pl⟩ [] [] [] S.next Q) : drawnP cx ops F S Q := by
  unfold planIs at hk
  simp only [Bool.and_eq_true] at hk
  obtain ⟨⟨⟨h1, h2⟩, h3⟩, h4⟩ := hk
  have hp := plan_rows cx ops.toArray
  simp only [List.toList_toArray] at hp
  obtain ⟨pln, _⟩ := hp
  have hmap : (settle (rowsL cx ops)).map (·.o) = ops := by
    apply List.ext_getElem?
    intro i
    rw [List.getElem?_map]
    cases hi : (settle (rowsL cx ops))[i]? with
    | none =>
      have hlen := pln.len
      simp only [List.size_toArray] at hlen
      rw [List.getElem?_eq_none_iff] at hi
      simp only [Option.map_none]
      exact (List.getElem?_eq_none_iff.2 (by omega)).symm
    | some r =>
      have := (pln.row i r hi).2
      simp only [List.getElem?_toArray] at this
      simp [this]
  refine ⟨?_⟩
  unfold drawnP0 planR
  rw [h1]
  simp only [cond_true]
  rw [freshC_match _ _ _ h4]
  exact rows_win (n := n) _ pl [] F _ [] [] [] S.next (by simp) hn h3 h2 (fun i r hr => (pln.row i r hr).1) h4 (fun r hr => by cases hr) (fun x hx => by cases hx) (fun q hq => by cases hq) (by rw [hmap]; exact h)

/-! ### For simp -/
section
variable {cx : Cx} {ops l : List Oper} {pl : List Pk} {o : Oper} {i id : Nat} {F : Fr} {S : AS} {ps : List Pend} {sn : List AS} {lv : List Live} {Q : Fr → AS → Prop}
def wontP (cx : Cx) (ops : List Oper) (pl : List Pk) (l : List Oper) (i : Nat) (F : Fr) (d : Option Nat) (S : AS) (ps : List Pend) (sn : List AS) (lv : List Live) (id : Nat) (Q : Fr → AS → Prop) (v : AV) : Prop := rowsW cx ops pl l i (up F d v) S ps sn lv id Q
def wontR (cx : Cx) (ops : List Oper) (pl : List Pk) (l : List Oper) (i b k : Nat) (F : Fr) (o : Oper) (S : AS) (ps : List Pend) (sn : List AS) (lv : List Live) (id : Nat) (Q : Fr → AS → Prop) (v : AV) : Prop :=
  reBack cx ops F o v b sn ∧ okN b k v ∧ rowsW cx ops pl l i (up F o.dst v) S ps sn (liveN o v k lv) id Q
def wontF (cx : Cx) (ops : List Oper) (pl : List Pk) (l : List Oper) (i : Nat) (F : Fr) (d : Option Nat) (S : AS) (ps : List Pend) (sn : List AS) (lv : List Live) (id : Nat) (Q : Fr → AS → Prop) (v : AV) (x : AObj) : Prop :=
  rowsW cx ops pl l (i + 1) (up F d v) S (⟨i, id, x⟩ :: ps) sn lv (id + 1) Q
def wontE (cx : Cx) (ops : List Oper) (pl : List Pk) (l : List Oper) (i : Nat) (F : Fr) (d : Option Nat) (S : AS) (ps : List Pend) (sn : List AS) (lv : List Live) (id : Nat) (Q : Fr → AS → Prop) (v : AV) (S' : AS) : Prop :=
  reLive cx ops F S' lv ∧ rowsW cx ops pl l i (up F d v) S' ps (S :: sn) (decL lv) id Q
theorem rowsW_nil : rowsW cx ops [] [] i F S ps sn lv id Q = Q F (comA ps S) := by rw [rowsW]
theorem rowsW_p : rowsW cx ops (.p :: pl) (o :: l) i F S ps sn lv id Q = stepV cx ops o F S (wontP cx ops pl l (i + 1) F o.dst S ps sn lv id Q) := by rw [rowsW]; rfl
theorem rowsW_r {b k : Nat} : rowsW cx ops (.r b k :: pl) (o :: l) i F S ps sn lv id Q = stepV cx ops o F S (wontR cx ops pl l (i + 1) b k F o S ps sn lv id Q) := by rw [rowsW]; rfl
theorem rowsW_f : rowsW cx ops (.f :: pl) (o :: l) i F S ps sn lv id Q = stepA cx ops o F id (wontF cx ops pl l i F o.dst S ps sn lv id Q) (rowsW cx ops pl l (i + 1) (up F o.dst .undef) S ps sn lv id Q) := by rw [rowsW]; rfl
theorem rowsW_e {cm : List Nat} : rowsW cx ops (.e cm :: pl) (o :: l) i F S ps sn lv id Q = stepP cx ops o F (comL cm ps S) (wontE cx ops pl l (i + 1) F o.dst S (leftL cm ps) sn lv id Q) := by rw [rowsW]; rfl
theorem wontP_app {d : Option Nat} {v : AV} : wontP cx ops pl l i F d S ps sn lv id Q v = rowsW cx ops pl l i (up F d v) S ps sn lv id Q := rfl
theorem wontR_app {b k : Nat} {v : AV} : wontR cx ops pl l i b k F o S ps sn lv id Q v = (reBack cx ops F o v b sn ∧ okN b k v ∧ rowsW cx ops pl l i (up F o.dst v) S ps sn (liveN o v k lv) id Q) := rfl
theorem wontF_app {d : Option Nat} {v : AV} {x : AObj} : wontF cx ops pl l i F d S ps sn lv id Q v x = rowsW cx ops pl l (i + 1) (up F d v) S (⟨i, id, x⟩ :: ps) sn lv (id + 1) Q := rfl
theorem wontE_app {d : Option Nat} {v : AV} {S' : AS} : wontE cx ops pl l i F d S ps sn lv id Q v S' = (reLive cx ops F S' lv ∧ rowsW cx ops pl l i (up F d v) S' ps (S :: sn) (decL lv) id Q) := rfl

variable {dst : Option Tmp} {op : Op} {ty : TypeId} {pos : String} {af : Array Edge} {K : AV → Prop} {KF : AV → AObj → Prop} {J : Prop}
theorem stepV_free : stepV cx ops ⟨dst, op, ty, pos, af, none⟩ F S K = valP (aop cx F S ⟨dst, op, ty, pos, af, none⟩) K := by simp [stepV, wantS]
theorem stepV_run {j d : Nat} {w b : Bool} (h1 : slotAt ops j = some d) (h2 : sl F d = .bool b) (h3 : (b == w) = true) : stepV cx ops ⟨dst, op, ty, pos, af, some (j, w)⟩ F S K = valP (aop cx F S ⟨dst, op, ty, pos, af, some (j, w)⟩) K := by
  have hw := wantS_slot (w := w) h1 h2
  obtain rfl : b = w := by simpa using h3
  show (match wantS ops F (some (j, b)) with
    | some b' => (b' = true → valP (aop cx F S ⟨dst, op, ty, pos, af, some (j, b)⟩) K) ∧ (b' = false → K AV.undef)
    | none => False) = _
  rw [hw]
  cases b <;> simp
theorem stepV_skip {j d : Nat} {w b : Bool} (h1 : slotAt ops j = some d) (h2 : sl F d = .bool b) (h3 : (b == !w) = true) : stepV cx ops ⟨dst, op, ty, pos, af, some (j, w)⟩ F S K = K AV.undef := by
  have hw := wantS_slot (w := w) h1 h2
  obtain rfl : b = !w := by simpa using h3
  show (match wantS ops F (some (j, w)) with
    | some b' => (b' = true → valP (aop cx F S ⟨dst, op, ty, pos, af, some (j, w)⟩) K) ∧ (b' = false → K AV.undef)
    | none => False) = _
  rw [hw]
  cases w <;> simp
theorem stepV_undef {j d : Nat} {w : Bool} (h1 : slotAt ops j = some d) (h2 : sl F d = .undef) : stepV cx ops ⟨dst, op, ty, pos, af, some (j, w)⟩ F S K = K AV.undef := by
  obtain ⟨p, e1, e2⟩ := slotAt_get ops j d h1
  have hw : wantS ops F (some (j, w)) = some false := by simp [wantS, e1, e2, h2, AV.undef]
  show (match wantS ops F (some (j, w)) with
    | some b' => (b' = true → valP (aop cx F S ⟨dst, op, ty, pos, af, some (j, w)⟩) K) ∧ (b' = false → K AV.undef)
    | none => False) = _
  rw [hw]
  simp
theorem stepA_free : stepA cx ops ⟨dst, op, ty, pos, af, none⟩ F id KF J = freP (freshV cx F id op) KF := by simp [stepA, wantS]
theorem stepA_run {j d : Nat} {w b : Bool} (h1 : slotAt ops j = some d) (h2 : sl F d = .bool b) (h3 : (b == w) = true) : stepA cx ops ⟨dst, op, ty, pos, af, some (j, w)⟩ F id KF J = freP (freshV cx F id op) KF := by
  have hw := wantS_slot (w := w) h1 h2
  obtain rfl : b = w := by simpa using h3
  show (match wantS ops F (some (j, b)) with
    | some b' => (b' = true → freP (freshV cx F id op) KF) ∧ (b' = false → J)
    | none => False) = _
  rw [hw]
  cases b <;> simp
theorem stepA_skip {j d : Nat} {w b : Bool} (h1 : slotAt ops j = some d) (h2 : sl F d = .bool b) (h3 : (b == !w) = true) : stepA cx ops ⟨dst, op, ty, pos, af, some (j, w)⟩ F id KF J = J := by
  have hw := wantS_slot (w := w) h1 h2
  obtain rfl : b = !w := by simpa using h3
  show (match wantS ops F (some (j, w)) with
    | some b' => (b' = true → freP (freshV cx F id op) KF) ∧ (b' = false → J)
    | none => False) = _
  rw [hw]
  cases w <;> simp
theorem stepA_undef {j d : Nat} {w : Bool} (h1 : slotAt ops j = some d) (h2 : sl F d = .undef) : stepA cx ops ⟨dst, op, ty, pos, af, some (j, w)⟩ F id KF J = J := by
  obtain ⟨p, e1, e2⟩ := slotAt_get ops j d h1
  have hw : wantS ops F (some (j, w)) = some false := by simp [wantS, e1, e2, h2, AV.undef]
  show (match wantS ops F (some (j, w)) with
    | some b' => (b' = true → freP (freshV cx F id op) KF) ∧ (b' = false → J)
    | none => False) = _
  rw [hw]
  simp
theorem freP_some {v : AV} {x : AObj} : freP (some (v, x)) KF = KF v x := rfl
theorem valP_val {v : AV} {S' : AS} : valP (.val v S') K = K v := rfl
theorem aopIs_val {v u : AV} {S' : AS} : aopIs (.val u S') v = (u = v) := rfl
variable {v : AV}
theorem reP_free : reP cx ops F S ⟨dst, op, ty, pos, af, none⟩ v = aopIs (aop cx F S ⟨dst, op, ty, pos, af, none⟩) v := by simp [reP, wantS]
theorem reP_run {j d : Nat} {w b : Bool} (h1 : slotAt ops j = some d) (h2 : sl F d = .bool b) (h3 : (b == w) = true) : reP cx ops F S ⟨dst, op, ty, pos, af, some (j, w)⟩ v = aopIs (aop cx F S ⟨dst, op, ty, pos, af, some (j, w)⟩) v := by
  have hw := wantS_slot (w := w) h1 h2
  obtain rfl : b = w := by simpa using h3
  show (match wantS ops F (some (j, b)) with
    | some b' => (b' = true → aopIs (aop cx F S ⟨dst, op, ty, pos, af, some (j, b)⟩) v) ∧ (b' = false → v = AV.undef)
    | none => False) = _
  rw [hw]
  cases b <;> simp
theorem reP_skip {j d : Nat} {w b : Bool} (h1 : slotAt ops j = some d) (h2 : sl F d = .bool b) (h3 : (b == !w) = true) : reP cx ops F S ⟨dst, op, ty, pos, af, some (j, w)⟩ AV.undef = True := by
  have hw := wantS_slot (w := w) h1 h2
  obtain rfl : b = !w := by simpa using h3
  show (match wantS ops F (some (j, w)) with
    | some b' => (b' = true → aopIs (aop cx F S ⟨dst, op, ty, pos, af, some (j, w)⟩) AV.undef) ∧ (b' = false → AV.undef = AV.undef)
    | none => False) = _
  rw [hw]
  cases w <;> simp
theorem reP_undef {j d : Nat} {w : Bool} (h1 : slotAt ops j = some d) (h2 : sl F d = .undef) : reP cx ops F S ⟨dst, op, ty, pos, af, some (j, w)⟩ AV.undef = True := by
  obtain ⟨p, e1, e2⟩ := slotAt_get ops j d h1
  have hw : wantS ops F (some (j, w)) = some false := by simp [wantS, e1, e2, h2, AV.undef]
  show (match wantS ops F (some (j, w)) with
    | some b' => (b' = true → aopIs (aop cx F S ⟨dst, op, ty, pos, af, some (j, w)⟩) AV.undef) ∧ (b' = false → AV.undef = AV.undef)
    | none => False) = _
  rw [hw]
  simp
theorem okN_zero : okN 0 0 v = True := rfl
theorem okN_back {b k : Nat} : okN (b + 1) k v = (okW v = true) := rfl
theorem okN_keep {b k : Nat} : okN b (k + 1) v = (okW v = true) := by cases b <;> rfl
theorem liveN_zero : liveN o v 0 lv = lv := rfl
theorem liveN_succ {k : Nat} : liveN o v (k + 1) lv = ⟨o, v, k + 1⟩ :: lv := rfl
theorem decL_one {l : List Live} : decL (⟨o, v, 1⟩ :: l) = decL l := rfl
theorem decL_more {l : List Live} {n : Nat} : decL (⟨o, v, n + 2⟩ :: l) = ⟨o, v, n + 1⟩ :: decL l := rfl
theorem reBack_zero : reBack cx ops F o v 0 sn = True := by cases sn <;> rfl
theorem reBack_cons {n : Nat} : reBack cx ops F o v (n + 1) (S :: sn) = (reP cx ops F S o v ∧ reBack cx ops F o v n sn) := rfl
theorem reLive_nil : reLive cx ops F S [] = True := rfl
theorem reLive_cons {x : Live} {l : List Live} : reLive cx ops F S (x :: l) = (reP cx ops F S x.o x.v ∧ reLive cx ops F S l) := rfl
end
end Go.Am
