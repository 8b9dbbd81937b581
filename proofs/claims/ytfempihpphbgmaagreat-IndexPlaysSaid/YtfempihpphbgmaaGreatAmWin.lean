/-
  The abstract machine: a region that draws its order and changes the memory: its plan, read off ahead; what is asked of its reading operations is asked where the memory turns.
-/
import Derived.Test.YtfempihpphbgmaaGreatAmStill
noncomputable section
namespace Go.Am
open Go
set_option linter.unusedSimpArgs false
def okW : AV → Bool
 | .func (.func _) a b => jm a && jm b
 | v => oW v
theorem okW_same (v : AV) (h : okW v = true) : cG 8 v v = true := by
 cases v <;> try exact vp _ h
 rename_i fn a b
 cases fn <;> try exact vp _ h
 simp only [okW, Bool.and_eq_true] at h;rename_i f;show (Nat.beq f f && pK 7 a a && pK 7 b b) = true;rw [ki 6 a h.1, ki 6 b h.2];simp [aK]
inductive Pk where
 | p | f | r (back bm : Nat) | e (cm : List Nat)
structure Live where
 o : Oper
 v : AV
 n : Nat
def p9 : List Pk → Nat
 | [] => 0
 | .f :: l => p9 l + 1
 | .p :: l => p9 l
 | .r _ _ :: l => p9 l
 | .e _ :: l => p9 l
def sc (n : Nat) : List Nat → Bool
 | [] => false
 | m :: l => (n == m) || sc n l
def comL (cm : List Nat) : List dC → AS → AS
 | [], S => S
 | x :: ps, S => comL cm ps (if sc x.i cm = true then ⟨S.h.set x.id x.obj, S.next⟩ else S)
def pB (cm : List Nat) : List dC → List dC
 | [] => []
 | x :: ps => if sc x.i cm = true then pB cm ps else x :: pB cm ps
def comA : List dC → AS → AS
 | [], S => S
 | x :: ps, S => comA ps ⟨S.h.set x.id x.obj, S.next⟩
def rm : List Live → List Live
 | [] => []
 | x :: l => match x.n with
  | 0 => rm l
  | 1 => rm l
  | n + 2 => ⟨x.o, x.v, n + 1⟩ :: rm l
def tQ (r : AR) (v : AV) : Prop := match r with | .val u _ => u = v | _ => False
def reP (cx : Cx) (ops : List Oper) (F : Fr) (T : AS) (o : Oper) (v : AV) : Prop :=
 match bg ops F o.guard with
 | some b => (b = true → tQ (bq cx F T o) v) ∧ (b = false → v = .undef)
 | none => False
def mg (cx : Cx) (ops : List Oper) (F : Fr) (T : AS) : List Live → Prop
 | [] => True
 | x :: l => reP cx ops F T x.o x.v ∧ mg cx ops F T l
def nz (cx : Cx) (ops : List Oper) (F : Fr) (o : Oper) (v : AV) : Nat → List AS → Prop
 | 0, _ => True
 | _ + 1, [] => True
 | n + 1, T :: sn => reP cx ops F T o v ∧ nz cx ops F o v n sn
def okN (back bm : Nat) (v : AV) : Prop := match back, bm with | 0, 0 => True | _, _ => okW v = true
def yQ (o : Oper) (v : AV) (bm : Nat) (lv : List Live) : List Live := match bm with | 0 => lv | n + 1 => ⟨o, v, n + 1⟩ :: lv
def Bv (r : AR) (K : AV → Prop) : Prop := match r with | .val v _ => K v | _ => False
def kW (cx : Cx) (ops : List Oper) (o : Oper) (F : Fr) (S : AS) (K : AV → Prop) : Prop :=
 match bg ops F o.guard with
 | some b => (b = true → Bv (bq cx F S o) K) ∧ (b = false → K .undef)
 | none => False
def CS (r : Option (AV × bW)) (K : AV → bW → Prop) : Prop := match r with | some (v, x) => K v x | none => False
def qD (cx : Cx) (ops : List Oper) (o : Oper) (F : Fr) (id : Nat) (K : AV → bW → Prop) (J : Prop) : Prop :=
 match bg ops F o.guard with
 | some b => (b = true → CS (aI cx F id o.op) K) ∧ (b = false → J)
 | none => False
def dP (cx : Cx) (ops : List Oper) : List Pk → List Oper → Nat → Fr → AS → List dC → List AS → List Live → Nat → (Fr → AS → Prop) → Prop
 | [], [], _, F, S, ps, _, _, _, Q => Q F (comA ps S)
 | .p :: pl, o :: l, i, F, S, ps, sn, lv, id, Q => kW cx ops o F S fun v => dP cx ops pl l (i + 1) (up F o.dst v) S ps sn lv id Q
 | .r b k :: pl, o :: l, i, F, S, ps, sn, lv, id, Q => kW cx ops o F S fun v => nz cx ops F o v b sn ∧ okN b k v ∧ dP cx ops pl l (i + 1) (up F o.dst v) S ps sn (yQ o v k lv) id Q
 | .f :: pl, o :: l, i, F, S, ps, sn, lv, id, Q => qD cx ops o F id (fun v x => dP cx ops pl l (i + 1) (up F o.dst v) S (⟨i, id, x⟩ :: ps) sn lv (id + 1) Q) (dP cx ops pl l (i + 1) (up F o.dst .undef) S ps sn lv id Q)
 | .e cm :: pl, o :: l, i, F, S, ps, sn, lv, id, Q => dZ cx ops o F (comL cm ps S) fun v S' => mg cx ops F S' lv ∧ dP cx ops pl l (i + 1) (up F o.dst v) S' (pB cm ps) (S :: sn) (rm lv) id Q
 | _, _, _, _, _, _, _, _, _, _ => False
def Ct (rows : List Row) (r : Row) : Nat := fa (fun e => bit r.eE e.i) (gv (fun e => bA e.cls) rows)
def hiN (rows : List Row) (r : Row) : Nat := Ct rows r + Nat.sub (fa (fun e => !bit e.eE r.i) (gv (fun e => bA e.cls) rows)) (Ct rows r)
def eJ (rows : List Row) : List Row → List Pk → Nat → Bool
 | [], [], _ => true
 | r :: l, .p :: pl, k => (match r.cls with | .pure => true | _ => false) && eJ rows l pl k
 | r :: l, .f :: pl, k => bV r.cls && eJ rows l pl k
 | r :: l, .r b n :: pl, k => dX r.cls && Nat.ble (Ct rows r) k && Nat.beq b (k - Ct rows r) && Nat.beq n (hiN rows r - k) && eJ rows l pl k
 | r :: l, .e cm :: pl, k => bA r.cls && fZ (fun f => cond (bV f.cls) (cond (sc f.i cm) (bit r.eE f.i) (!bit r.eE f.i)) true) rows && eJ rows l pl (k + 1)
 | _, _, _ => false
def calmB (ops : List Oper) : List Row → Bool
 | [] => true
 | r :: l => cond (dX r.cls) (match r.o.dst with
  | some d => !mr d (gH ops r.o) && fZ (fun w => match w.o.dst with | some e => !Nat.beq e d && !mr e (gH ops r.o) | none => true) l
  | none => false) true && calmB ops l
def planIs (cx : Cx) (n : Nat) (ops : List Oper) (pl : List Pk) : Bool :=
 mh ops (settle (cV cx ops)) && calmB ops (settle (cV cx ops)) && mA n (settle (cV cx ops)) && eJ (settle (cV cx ops)) (settle (cV cx ops)) pl 0
theorem comA_eq : ∀ (ps : List dC) (S : AS), comA ps S = bf (fun _ => true) ps S
 | [], _ => rfl
 | x :: ps, S => by
  show comA ps _ = bf (fun _ => true) ps (cond true _ _)
  rw [comA_eq ps]; rfl
theorem comL_eq {cm : List Nat} {m : Nat} : ∀ {ps : List dC} {S : AS}, (∀ x, x ∈ ps → sc x.i cm = bit m x.i) → comL cm ps S = bf (fun p => bit m p.i) ps S ∧ pB cm ps = gv (fun p => !bit m p.i) ps
 | [], S, _ => ⟨rfl, rfl⟩
 | x :: ps, S, h => by
  have hx := h x (List.mem_cons_self ..);obtain ⟨h1, h2⟩ := comL_eq (ps := ps) (S := if sc x.i cm = true then ⟨S.h.set x.id x.obj, S.next⟩ else S) fun y hy => h y (List.mem_cons_of_mem _ hy)
  constructor
  ·show comL cm ps _ = bf (fun p => bit m p.i) ps (cond (bit m x.i) _ S)
   rw [h1, ← hx]
   cases sc x.i cm <;> rfl
  ·show pB cm (x :: ps) = cond (!bit m x.i) (x :: gv (fun p => !bit m p.i) ps) (gv (fun p => !bit m p.i) ps)
   rw [pB, h2, ← hx]
   cases sc x.i cm <;> rfl
theorem reP_one {cx : Cx} {ops : List Oper} {F : Fr} {T : AS} {o : Oper} {v : AV} (h : reP cx ops F T o v) : eG cx ops F T o = some v := by
 unfold reP at h;rw [mo]
 cases hw : bg ops F o.guard with
 | none => rw [hw] at h; exact h.elim
 | some b =>
  rw [hw] at h
  cases b with
  | true =>
   have h1 := h.1 rfl;unfold tQ at h1;simp only []
   cases ha : bq cx F T o <;> rw [ha] at h1 <;> first | exact h1.elim | exact congrArg some h1
  | false => rw [h.2 rfl]
theorem yf {cx : Cx} {ops : List Oper} {F : Fr} {S : AS} {o : Oper} {K : AV → Prop} (h : kW cx ops o F S K) : ∃ v, eG cx ops F S o = some v ∧ K v := by
 unfold kW at h;rw [mo]
 cases hw : bg ops F o.guard with
 | none => rw [hw] at h; exact h.elim
 | some b =>
  rw [hw] at h
  cases b with
  | true =>
   have h1 := h.1 rfl;unfold Bv at h1;simp only []
   cases ha : bq cx F S o <;> rw [ha] at h1 <;> first | exact h1.elim | exact ⟨_, rfl, h1⟩
  | false => exact ⟨_, rfl, h.2 rfl⟩
def Seen (cx : Cx) (ops : List Oper) (rows : List Row) (P : List Row) (F : Fr) (S : AS) (sn : List AS) (lv : List Live) : Prop :=
 ∀ q, q ∈ P → dX q.cls = true → ∃ d v, q.o.dst = some d ∧ F.t.get d = some v ∧ (Ct rows q < hiN rows q → okW v = true) ∧
  (∀ j T, Ct rows q ≤ j → j ≤ hiN rows q → (S :: sn).reverse[j]? = some T → eG cx ops F T q.o = some v) ∧
  (sn.length < hiN rows q → ∃ x, x ∈ lv ∧ x.o = q.o ∧ x.v = v ∧ x.n = hiN rows q - sn.length)
theorem ED {cx : Cx} {ops : List Oper} {F : Fr} {T : AS} {lv : List Live} (h : mg cx ops F T lv) : ∀ x, x ∈ lv → reP cx ops F T x.o x.v := by
 induction lv with
 | nil => intro x hx; cases hx
 | cons y l ih =>
  intro x hx;rcases List.mem_cons.1 hx with e | hx
  ·rw [e]; exact h.1
  ·exact ih h.2 x hx
theorem decL_mem {lv : List Live} {x : Live} (hx : x ∈ lv) (hn : 1 < x.n) : ∃ y, y ∈ rm lv ∧ y.o = x.o ∧ y.v = x.v ∧ y.n = x.n - 1 := by
 induction lv with
 | nil => cases hx
 | cons a l ih =>
  rcases List.mem_cons.1 hx with e | hx
  ·subst e
   obtain ⟨o, v, n⟩ := x
   match n, hn with
   | n + 2, _ => exact ⟨⟨o, v, n + 1⟩, List.mem_cons_self .., rfl, rfl, by simp⟩
  ·obtain ⟨y, h1, h2⟩ := ih hx
   refine ⟨y, ?_, h2⟩;obtain ⟨o, v, n⟩ := a
   match n with
   | 0 => exact h1
   | 1 => exact h1
   | n + 2 => exact List.mem_cons_of_mem _ h1
theorem vc {cx : Cx} {ops : List Oper} {F : Fr} {o : Oper} {v : AV} : ∀ {n : Nat} {sn : List AS}, nz cx ops F o v n sn → ∀ i T, i < n → sn[i]? = some T → reP cx ops F T o v
 | n + 1, T :: sn, h, 0, T', _, ht => by simp at ht; subst ht; exact h.1
 | n + 1, T :: sn, h, i + 1, T', hi, ht => vc h.2 i T' (by omega) (by simpa using ht)
theorem lf {cx : Cx} {ops : List Oper} {rows : List Row} {n : Nat} {Q : Fr → AS → Prop} : ∀ (l : List Row) (pl : List Pk) (P : List Row) (F : Fr) (S : AS) (ps : List dC) (sn : List AS) (lv : List Live) (id : Nat),
  rows = P ++ l → F.n = n → mA n rows = true → calmB ops l = true → (∀ (i : Nat) (r : Row), rows[i]? = some r → r.i = i) → eJ rows l pl sn.length = true →
  (∀ r, r ∈ P → dX r.cls = true → ∀ w, w ∈ l → ∀ e, w.o.dst = some e → some e ≠ r.o.dst ∧ e ∉ gH ops r.o) →
  (∀ x, x ∈ ps → ∃ f, f ∈ rows ∧ bV f.cls = true ∧ f.i = x.i) →
  Seen cx ops rows P F S sn lv → dP cx ops pl (l.map (·.o)) P.length F S ps sn lv id Q →
  dk cx ops l F S ps sn id fun F' S' Eg => winP cx ops rows F' (zS Eg) ∧ Q F' S'
 | [], pl, P, F, S, ps, sn, lv, id, yS, hn, hd, _, _, hm, _, _, hs, h => by
  have lH : pl = [] := by
   cases pl with
   | nil => rfl
   | cons a pl => cases a <;> cases hm
  subst lH;have h' : Q F (comA ps S) := h;rw [comA_eq] at h';refine ⟨?_, h'⟩;intro q hq hr;rw [yS, List.append_nil] at hq;obtain ⟨d, v, e1, e2, e3, e4, _⟩ := hs q hq hr;have hdn : d < F.n := by
   rw [hn];have := List.all_eq_true.1 hd q (by rw [yS, List.append_nil]; exact hq)
   unfold AG at this;rw [e1] at this;simpa [fI] using this
  unfold fU;simp only [];have gS : ∀ T, T ∈ takeN (Nat.succ (Nat.sub (fa (fun e => !bit e.eE q.i) (gv (fun e => bA e.cls) rows)) (fa (fun e => bit q.eE e.i) (gv (fun e => bA e.cls) rows)))) (kc (fa (fun e => bit q.eE e.i) (gv (fun e => bA e.cls) rows)) (zS (S :: sn))) → eG cx ops F T q.o = some v := by
   intro T hT;rw [bX, ck, zR] at hT;obtain ⟨i, hi⟩ := List.getElem?_of_mem hT;rw [List.getElem?_take] at hi
   split at hi
   ·rename_i aL
    rw [List.getElem?_drop] at hi;exact e4 (Ct rows q + i) T (Nat.le_add_right _ _) (by unfold hiN; have := Nat.le_of_lt_succ aL; unfold Ct at *; omega) hi
   ·cases hi
  split
  ·rfl
  ·rename_i bO
   simp only [e1, fI, hdn, decide_true, cond_true, e2];rw [lR];intro T hT;rw [gS T hT];refine okW_same v (e3 ?_);rcases Nat.lt_or_ge (Ct rows q) (hiN rows q) with h0 | h0
   ·exact h0
   ·exfalso
    have hz : Nat.sub (fa (fun e => !bit e.eE q.i) (gv (fun e => bA e.cls) rows)) (Ct rows q) = 0 := by unfold hiN at h0; omega
    unfold Ct at hz;rw [hz, bX, ck] at hT bO;generalize hL : List.drop (fa (fun e => bit q.eE e.i) (gv (fun e => bA e.cls) rows)) (zS (S :: sn)) = L at hT bO
    cases L with
    | nil => simp at hT
    | cons a L => exact bO a (by simp)
 | r :: l, pl, P, F, S, ps, sn, lv, id, yS, hn, hd, hb, hi, hm, hw, hps, hs, h => by
  simp only [calmB, Bool.and_eq_true] at hb;obtain ⟨lJ, pe⟩ := hb;have vO : rows = (P ++ [r]) ++ l := by rw [yS]; simp
  have hri : r.i = P.length := hi P.length r (by rw [yS]; simp)
  have CI : (P ++ [r]).length = P.length + 1 := by simp
  have fj : ∀ q, q ∈ P → dX q.cls = true → ∀ (v : AV) t, (q.o.dst = some t ∨ t ∈ gH ops q.o) → (up F r.o.dst v).t.get t = F.t.get t := by
   intro q hq qv v t ht;refine oK fun e => ?_
   obtain ⟨k1, k2⟩ := hw q hq qv r (List.mem_cons_self ..) t e;rcases ht with ht | ht
   ·exact k1 ht.symm
   ·exact k2 ht
  have Ar : ∀ q, q ∈ P ++ [r] → dX q.cls = true → ∀ w, w ∈ l → ∀ e, w.o.dst = some e → some e ≠ q.o.dst ∧ e ∉ gH ops q.o := by
   intro q hq qv w hwl e he;rcases List.mem_append.1 hq with hq | hq
   ·exact hw q hq qv w (List.mem_cons_of_mem _ hwl) e he
   ·rw [List.mem_singleton] at hq
    subst hq;rw [qv] at lJ;simp only [cond_true] at lJ
    cases hdq : q.o.dst with
    | none => rw [hdq] at lJ; cases lJ
    | some d =>
     rw [hdq] at lJ;simp only [Bool.and_eq_true, Bool.not_eq_true'] at lJ;obtain ⟨_, h2⟩ := lJ;rw [lR] at h2;have := h2 w hwl;rw [he] at this;simp only [aK, Bool.and_eq_true, Bool.not_eq_true', decide_eq_false_iff_not] at this;refine ⟨fun e' => this.1 (by cases e'; rfl), fun e' => ?_⟩
     have h3 := (qR _ _).2 e';rw [h3] at this
     cases this.2
  have carry : ∀ (v : AV) (lv2 : List Live), (∀ x, x ∈ lv → x ∈ lv2) → ∀ q, q ∈ P → dX q.cls = true → ∃ d u, q.o.dst = some d ∧ (up F r.o.dst v).t.get d = some u ∧ (Ct rows q < hiN rows q → okW u = true) ∧
    (∀ j T, Ct rows q ≤ j → j ≤ hiN rows q → (S :: sn).reverse[j]? = some T → eG cx ops (up F r.o.dst v) T q.o = some u) ∧
    (sn.length < hiN rows q → ∃ x, x ∈ lv2 ∧ x.o = q.o ∧ x.v = u ∧ x.n = hiN rows q - sn.length) := by
   intro v lv2 rH q hq qv;obtain ⟨d, u, k1, k2, k3, k4, k5⟩ := hs q hq qv;refine ⟨d, u, k1, by rw [fj q hq qv v d (.inl k1)]; exact k2, k3, fun j T h1 h2 h3 => ?_, fun hh => ?_⟩
   ·rw [← k4 j T h1 h2 h3]
    exact gl fun t ht => fj q hq qv v t (.inr ht)
   ·obtain ⟨x, x1, x2⟩ := k5 hh
    exact ⟨x, rH x x1, x2⟩
  cases pl with
  | nil => cases hm
  | cons a pl =>
   cases a with
   | p =>
    have eH : ((match r.cls with | .pure => true | _ => false) && eJ rows l pl sn.length) = true := hm
    rw [Bool.and_eq_true] at eH;have hc : r.cls = .pure := by cases vT : r.cls <;> rw [vT] at eH <;> first | rfl | (cases eH.1)
    obtain ⟨v, hv, hk⟩ := yf (show kW cx ops r.o F S _ from h);have tB : Seen cx ops rows (P ++ [r]) (up F r.o.dst v) S sn lv := by
     intro q hq qv;rcases List.mem_append.1 hq with hq | hq
     ·exact carry v lv (fun _ hx => hx) q hq qv
     ·rw [List.mem_singleton] at hq; subst hq; rw [hc] at qv; cases qv
    have ih := lf l pl (P ++ [r]) (up F r.o.dst v) S ps sn lv id vO (by rw [mZ]; exact hn) hd pe hi eH.2 Ar hps tB (by rw [CI]; exact hk)
    rw [dk, hc];simp only [];rw [mo] at hv
    cases hww : bg ops F r.o.guard with
    | none => rw [hww] at hv; cases hv
    | some b =>
     rw [hww] at hv
     cases b with
     | true =>
      refine ⟨fun _ => ?_, fun e => by cases e⟩
      simp only [] at hv
      cases ha : bq cx F S r.o <;> rw [ha] at hv <;> first | (cases hv; done) | skip
      cases hv
      exact ⟨_, _, rfl, ih⟩
     | false =>
      refine ⟨fun e => (by cases e), fun _ => ?_⟩
      cases hv
      exact ih
   | r bk kp =>
    have eH : (dX r.cls && Nat.ble (Ct rows r) sn.length && Nat.beq bk (sn.length - Ct rows r) && Nat.beq kp (hiN rows r - sn.length) && eJ rows l pl sn.length) = true := hm;simp only [Bool.and_eq_true, cg, aK, decide_eq_true_eq] at eH;obtain ⟨⟨⟨⟨yT, iu⟩, hbk⟩, hkp⟩, eH⟩ := eH;have hc : r.cls = .read := by cases vT : r.cls <;> rw [vT] at yT <;> first | rfl | (cases yT)
    obtain ⟨v, hv, vV, sy, hk⟩ := yf (show kW cx ops r.o F S _ from h);rw [yT] at lJ;simp only [cond_true] at lJ;have tB : Seen cx ops rows (P ++ [r]) (up F r.o.dst v) S sn (yQ r.o v kp lv) := by
     intro q hq qv;rcases List.mem_append.1 hq with hq | hq
     ·refine carry v _ (fun x hx => ?_) q hq qv
      cases kp with
      | zero => exact hx
      | succ m => exact List.mem_cons_of_mem _ hx
     ·rw [List.mem_singleton] at hq
      subst hq
      cases hdq : q.o.dst with
      | none => rw [hdq] at lJ; cases lJ
      | some d =>
       rw [hdq] at lJ;simp only [Bool.and_eq_true, Bool.not_eq_true'] at lJ;have hcong : ∀ T, eG cx ops (up F (some d) v) T q.o = eG cx ops F T q.o := by
        intro T;refine gl fun t ht => oK fun e => ?_
        cases e
        rw [(qR _ _).2 ht] at lJ
        cases lJ.1
       refine ⟨d, v, rfl, tE, fun aL => ?_, fun j T h1 h2 h3 => ?_, fun aL => ?_⟩
       ·unfold okN at sy
        split at sy
        ·omega
        ·exact sy
       ·rw [hcong]
        have hj : j < (S :: sn).reverse.length := (List.getElem?_eq_some_iff.1 h3).1;simp only [List.length_reverse, List.length_cons] at hj;rw [List.getElem?_reverse (by simpa using hj)] at h3
        simp only [List.length_cons] at h3
        by_cases he : j = sn.length
        ·subst he
         simp at h3;subst h3;exact hv
        ·have e1 : sn.length + 1 - 1 - j = (sn.length - 1 - j) + 1 := by omega
         rw [e1, List.getElem?_cons_succ] at h3;exact reP_one (vc vV _ T (by omega) h3)
       ·obtain ⟨m, CH⟩ : ∃ m, kp = m + 1 := ⟨kp - 1, by omega⟩
        subst CH;exact ⟨⟨q.o, v, m + 1⟩, List.mem_cons_self .., rfl, rfl, hkp⟩
    have ih := lf l pl (P ++ [r]) (up F r.o.dst v) S ps sn _ id vO (by rw [mZ]; exact hn) hd pe hi eH Ar hps tB (by rw [CI]; exact hk)
    rw [dk, hc];simp only [];rw [mo] at hv
    cases hww : bg ops F r.o.guard with
    | none => rw [hww] at hv; cases hv
    | some b =>
     rw [hww] at hv
     cases b with
     | true =>
      refine ⟨fun _ => ?_, fun e => by cases e⟩
      simp only [] at hv
      cases ha : bq cx F S r.o <;> rw [ha] at hv <;> first | (cases hv; done) | skip
      cases hv
      exact ⟨_, _, rfl, ih⟩
     | false =>
      refine ⟨fun e => (by cases e), fun _ => ?_⟩
      cases hv
      exact ih
   | f =>
    have eH : (bV r.cls && eJ rows l pl sn.length) = true := hm;rw [Bool.and_eq_true] at eH;have hc : r.cls = .fresh := by cases vT : r.cls <;> rw [vT] at eH <;> first | rfl | (cases eH.1)
    have h' : qD cx ops r.o F id (fun v x => dP cx ops pl (l.map (·.o)) (P.length + 1) (up F r.o.dst v) S (⟨P.length, id, x⟩ :: ps) sn lv (id + 1) Q) (dP cx ops pl (l.map (·.o)) (P.length + 1) (up F r.o.dst .undef) S ps sn lv id Q) := h
    have tB : ∀ v, Seen cx ops rows (P ++ [r]) (up F r.o.dst v) S sn lv := by
     intro v q hq qv;rcases List.mem_append.1 hq with hq | hq
     ·exact carry v lv (fun _ hx => hx) q hq qv
     ·rw [List.mem_singleton] at hq; subst hq; rw [hc] at qv; cases qv
    rw [dk, hc];simp only [];unfold qD at h'
    cases hww : bg ops F r.o.guard with
    | none => rw [hww] at h'; exact h'.elim
    | some b =>
     rw [hww] at h'
     cases b with
     | true =>
      refine ⟨fun _ => ?_, fun e => by cases e⟩
      have h1 := h'.1 rfl;unfold CS at h1
      cases hf : aI cx F id r.o.op with
      | none => rw [hf] at h1; exact h1.elim
      | some vx =>
       obtain ⟨v, x⟩ := vx;rw [hf] at h1;refine ⟨v, x, rfl, ?_⟩;rw [hri];refine lf l pl (P ++ [r]) (up F r.o.dst v) S _ sn lv (id + 1) vO (by rw [mZ]; exact hn) hd pe hi eH.2 Ar (fun y hy => ?_) (tB v) (by rw [CI]; exact h1)
       rcases List.mem_cons.1 hy with rfl | hy
       ·exact ⟨r, by rw [yS]; simp, eH.1, hri⟩
       ·exact hps y hy
     | false =>
      refine ⟨fun e => (by cases e), fun _ => ?_⟩
      exact lf l pl (P ++ [r]) (up F r.o.dst .undef) S ps sn lv id vO (by rw [mZ]; exact hn) hd pe hi eH.2 Ar hps (tB _) (by rw [CI]; exact h'.2 rfl)
   | e cm =>
    have eH : (bA r.cls && fZ (fun f => cond (bV f.cls) (cond (sc f.i cm) (bit r.eE f.i) (!bit r.eE f.i)) true) rows && eJ rows l pl (sn.length + 1)) = true := hm
    simp only [Bool.and_eq_true] at eH;obtain ⟨⟨hef, hcm⟩, eH⟩ := eH;have hc : r.cls = .xH := by cases vT : r.cls <;> rw [vT] at hef <;> first | rfl | (cases hef)
    rw [lR] at hcm;have hcm' : ∀ x, x ∈ ps → sc x.i cm = bit r.eE x.i := by
     intro x hx;obtain ⟨f, f1, f2, f3⟩ := hps x hx;have := hcm f f1;rw [f2] at this;simp only [cond_true, f3] at this
     cases hmm : sc x.i cm <;> rw [hmm] at this <;> cases vV : bit r.eE x.i <;> rw [vV] at this <;> first | rfl | (cases this)
    obtain ⟨c1, c2⟩ := comL_eq (S := S) hcm';have h' : dZ cx ops r.o F (comL cm ps S) fun v S' => mg cx ops F S' lv ∧ dP cx ops pl (l.map (·.o)) (P.length + 1) (up F r.o.dst v) S' (pB cm ps) (S :: sn) (rm lv) id Q := h
    rw [dk, hc];simp only [];rw [c1] at h';refine lZ h' ?_
    rintro v S' ⟨hre, hk⟩
    rw [← c2];refine lf l pl (P ++ [r]) (up F r.o.dst v) S' (pB cm ps) (S :: sn) (rm lv) id vO (by rw [mZ]; exact hn) hd pe hi eH Ar (fun x hx => ?_) ?_ (by rw [CI]; exact hk)
    ·have : x ∈ ps := by
      rw [c2, oO] at hx;exact (List.mem_filter.1 hx).1
     exact hps x this
    ·intro q hq qv
     rcases List.mem_append.1 hq with hq | hq
     ·obtain ⟨d, u, k1, k2, k3, k4, k5⟩ := hs q hq qv
      have hcong : ∀ T, eG cx ops (up F r.o.dst v) T q.o = eG cx ops F T q.o := fun T => gl fun t ht => fj q hq qv v t (.inr ht)
      refine ⟨d, u, k1, by rw [fj q hq qv v d (.inl k1)]; exact k2, k3, fun j T h1 h2 h3 => ?_, fun hh => ?_⟩
      ·rw [hcong]
       rw [List.reverse_cons] at h3
       by_cases hj : j < (S :: sn).reverse.length
       ·rw [List.getElem?_append_left hj] at h3
        exact k4 j T h1 h2 h3
       ·have hj2 : j = sn.length + 1 := by
         have := (List.getElem?_eq_some_iff.1 h3).1;simp at this hj;omega
        subst hj2;rw [List.getElem?_append_right (by simp)] at h3
        simp at h3;subst h3;obtain ⟨x, x1, x2, x3, _⟩ := k5 (by omega)
        have := ED hre x x1;rw [x2, x3] at this;exact reP_one this
      ·simp only [List.length_cons] at hh
       obtain ⟨x, x1, x2, x3, x4⟩ := k5 (by omega)
       obtain ⟨y, y1, y2, y3, y4⟩ := decL_mem x1 (by omega)
       exact ⟨y, y1, y2.trans x2, y3.trans x3, by rw [y4, x4]; simp only [List.length_cons]; omega⟩
     ·rw [List.mem_singleton] at hq; subst hq; rw [hc] at qv; cases qv
theorem iz {rows : List Row} : ∀ (l : List Row) (pl : List Pk) (k : Nat), eJ rows l pl k = true → nO l = p9 pl
 | [], [], _, _ => rfl
 | [], a :: pl, k, h => by cases a <;> cases h
 | r :: l, [], k, h => by cases h
 | r :: l, a :: pl, k, h => by
  have e : nO (r :: l) = cond (bV r.cls) (Nat.succ (nO l)) (nO l) := rfl
  cases a with
  | p =>
   have eH : ((match r.cls with | .pure => true | _ => false) && eJ rows l pl k) = true := h
   rw [Bool.and_eq_true] at eH;have hc : bV r.cls = false := by cases vT : r.cls <;> rw [vT] at eH <;> first | rfl | (cases eH.1)
   rw [e, hc, iz l pl k eH.2]; rfl
  | r b n =>
   have eH : (dX r.cls && Nat.ble (Ct rows r) k && Nat.beq b (k - Ct rows r) && Nat.beq n (hiN rows r - k) && eJ rows l pl k) = true := h;simp only [Bool.and_eq_true] at eH;have hc : bV r.cls = false := by cases vT : r.cls <;> rw [vT] at eH <;> first | rfl | (cases eH.1.1.1.1)
   rw [e, hc, iz l pl k eH.2]; rfl
  | f =>
   have eH : (bV r.cls && eJ rows l pl k) = true := h;rw [Bool.and_eq_true] at eH;rw [e, eH.1, iz l pl k eH.2]; rfl
  | e cm =>
   have eH : (bA r.cls && fZ (fun f => cond (bV f.cls) (cond (sc f.i cm) (bit r.eE f.i) (!bit r.eE f.i)) true) rows && eJ rows l pl (k + 1)) = true := h
   simp only [Bool.and_eq_true] at eH;have hc : bV r.cls = false := by cases vT : r.cls <;> rw [vT] at eH <;> first | rfl | (cases eH.1.1)
   rw [e, hc, iz l pl (k + 1) eH.2]; rfl
theorem aA {cx : Cx} {ops : List Oper} {F : Fr} {S : AS} {Q : Fr → AS → Prop} {n : Nat} (pl : List Pk) (hk : planIs cx n ops pl = true) (hn : F.n = n)
  (h : dP cx ops pl ops 0 F ⟨S.h, S.next + p9 pl⟩ [] [] [] S.next Q) : iR cx ops F S Q := by
 unfold planIs at hk;simp only [Bool.and_eq_true] at hk;obtain ⟨⟨⟨h1, h2⟩, h3⟩, h4⟩ := hk;have hp := rS cx ops.toArray;simp only [List.toList_toArray] at hp;obtain ⟨pln, _⟩ := hp;have hmap : (settle (cV cx ops)).map (·.o) = ops := by
  apply List.ext_getElem?
  intro i;rw [List.getElem?_map]
  cases hi : (settle (cV cx ops))[i]? with
  | none =>
   have hlen := pln.len;simp only [List.size_toArray] at hlen;rw [List.getElem?_eq_none_iff] at hi;simp only [Option.map_none];exact (List.getElem?_eq_none_iff.2 (by omega)).symm
  | some r =>
   have := (pln.row i r hi).2;simp only [List.getElem?_toArray] at this;simp [this]
 refine ⟨?_⟩;unfold rk Cc;rw [h1];simp only [cond_true];rw [iz _ _ _ h4];exact lf (n := n) _ pl [] F _ [] [] [] S.next (by simp) hn h3 h2 (fun i r hr => (pln.row i r hr).1) h4 (fun r hr => by cases hr) (fun x hx => by cases hx) (fun q hq => by cases hq) (by rw [hmap]; exact h)
section
variable {cx : Cx} {ops l : List Oper} {pl : List Pk} {o : Oper} {i id : Nat} {F : Fr} {S : AS} {ps : List dC} {sn : List AS} {lv : List Live} {Q : Fr → AS → Prop}
def wontP (cx : Cx) (ops : List Oper) (pl : List Pk) (l : List Oper) (i : Nat) (F : Fr) (d : Option Nat) (S : AS) (ps : List dC) (sn : List AS) (lv : List Live) (id : Nat) (Q : Fr → AS → Prop) (v : AV) : Prop := dP cx ops pl l i (up F d v) S ps sn lv id Q
def wontR (cx : Cx) (ops : List Oper) (pl : List Pk) (l : List Oper) (i b k : Nat) (F : Fr) (o : Oper) (S : AS) (ps : List dC) (sn : List AS) (lv : List Live) (id : Nat) (Q : Fr → AS → Prop) (v : AV) : Prop :=
 nz cx ops F o v b sn ∧ okN b k v ∧ dP cx ops pl l i (up F o.dst v) S ps sn (yQ o v k lv) id Q
def wontF (cx : Cx) (ops : List Oper) (pl : List Pk) (l : List Oper) (i : Nat) (F : Fr) (d : Option Nat) (S : AS) (ps : List dC) (sn : List AS) (lv : List Live) (id : Nat) (Q : Fr → AS → Prop) (v : AV) (x : bW) : Prop :=
 dP cx ops pl l (i + 1) (up F d v) S (⟨i, id, x⟩ :: ps) sn lv (id + 1) Q
def wontE (cx : Cx) (ops : List Oper) (pl : List Pk) (l : List Oper) (i : Nat) (F : Fr) (d : Option Nat) (S : AS) (ps : List dC) (sn : List AS) (lv : List Live) (id : Nat) (Q : Fr → AS → Prop) (v : AV) (S' : AS) : Prop :=
 mg cx ops F S' lv ∧ dP cx ops pl l i (up F d v) S' ps (S :: sn) (rm lv) id Q
theorem rowsW_nil : dP cx ops [] [] i F S ps sn lv id Q = Q F (comA ps S) := by rw [dP]
theorem rowsW_p : dP cx ops (.p :: pl) (o :: l) i F S ps sn lv id Q = kW cx ops o F S (wontP cx ops pl l (i + 1) F o.dst S ps sn lv id Q) := by rw [dP]; rfl
theorem rowsW_r {b k : Nat} : dP cx ops (.r b k :: pl) (o :: l) i F S ps sn lv id Q = kW cx ops o F S (wontR cx ops pl l (i + 1) b k F o S ps sn lv id Q) := by rw [dP]; rfl
theorem rowsW_f : dP cx ops (.f :: pl) (o :: l) i F S ps sn lv id Q = qD cx ops o F id (wontF cx ops pl l i F o.dst S ps sn lv id Q) (dP cx ops pl l (i + 1) (up F o.dst .undef) S ps sn lv id Q) := by rw [dP]; rfl
theorem rowsW_e {cm : List Nat} : dP cx ops (.e cm :: pl) (o :: l) i F S ps sn lv id Q = dZ cx ops o F (comL cm ps S) (wontE cx ops pl l (i + 1) F o.dst S (pB cm ps) sn lv id Q) := by rw [dP]; rfl
theorem wontP_app {d : Option Nat} {v : AV} : wontP cx ops pl l i F d S ps sn lv id Q v = dP cx ops pl l i (up F d v) S ps sn lv id Q := rfl
theorem wontR_app {b k : Nat} {v : AV} : wontR cx ops pl l i b k F o S ps sn lv id Q v = (nz cx ops F o v b sn ∧ okN b k v ∧ dP cx ops pl l i (up F o.dst v) S ps sn (yQ o v k lv) id Q) := rfl
theorem wontF_app {d : Option Nat} {v : AV} {x : bW} : wontF cx ops pl l i F d S ps sn lv id Q v x = dP cx ops pl l (i + 1) (up F d v) S (⟨i, id, x⟩ :: ps) sn lv (id + 1) Q := rfl
theorem wontE_app {d : Option Nat} {v : AV} {S' : AS} : wontE cx ops pl l i F d S ps sn lv id Q v S' = (mg cx ops F S' lv ∧ dP cx ops pl l i (up F d v) S' ps (S :: sn) (rm lv) id Q) := rfl
variable {dst : Option Tmp} {op : Op} {ty : TypeId} {pos : String} {af : Array Edge} {K : AV → Prop} {KF : AV → bW → Prop} {J : Prop}
theorem D7 : kW cx ops ⟨dst, op, ty, pos, af, none⟩ F S K = Bv (bq cx F S ⟨dst, op, ty, pos, af, none⟩) K := by simp [kW, bg]
theorem stepV_run {j d : Nat} {w b : Bool} (h1 : dI ops j = some d) (h2 : sl F d = .bool b) (h3 : (b == w) = true) : kW cx ops ⟨dst, op, ty, pos, af, some (j, w)⟩ F S K = Bv (bq cx F S ⟨dst, op, ty, pos, af, some (j, w)⟩) K := by
 have hw := dV (w := w) h1 h2;obtain rfl : b = w := by simpa using h3
 show (match bg ops F (some (j, b)) with
  | some b' => (b' = true → Bv (bq cx F S ⟨dst, op, ty, pos, af, some (j, b)⟩) K) ∧ (b' = false → K AV.undef)
  | none => False) = _
 rw [hw]
 cases b <;> simp
theorem D6 {j d : Nat} {w b : Bool} (h1 : dI ops j = some d) (h2 : sl F d = .bool b) (h3 : (b == !w) = true) : kW cx ops ⟨dst, op, ty, pos, af, some (j, w)⟩ F S K = K AV.undef := by
 have hw := dV (w := w) h1 h2;obtain rfl : b = !w := by simpa using h3
 show (match bg ops F (some (j, w)) with
  | some b' => (b' = true → Bv (bq cx F S ⟨dst, op, ty, pos, af, some (j, w)⟩) K) ∧ (b' = false → K AV.undef)
  | none => False) = _
 rw [hw]
 cases w <;> simp
theorem By {j d : Nat} {w : Bool} (h1 : dI ops j = some d) (h2 : sl F d = .undef) : kW cx ops ⟨dst, op, ty, pos, af, some (j, w)⟩ F S K = K AV.undef := by
 obtain ⟨p, e1, e2⟩ := iK ops j d h1;have hw : bg ops F (some (j, w)) = some false := by simp [bg, e1, e2, h2, AV.undef]
 show (match bg ops F (some (j, w)) with
  | some b' => (b' = true → Bv (bq cx F S ⟨dst, op, ty, pos, af, some (j, w)⟩) K) ∧ (b' = false → K AV.undef)
  | none => False) = _
 rw [hw];simp
theorem Ee : qD cx ops ⟨dst, op, ty, pos, af, none⟩ F id KF J = CS (aI cx F id op) KF := by simp [qD, bg]
theorem stepA_run {j d : Nat} {w b : Bool} (h1 : dI ops j = some d) (h2 : sl F d = .bool b) (h3 : (b == w) = true) : qD cx ops ⟨dst, op, ty, pos, af, some (j, w)⟩ F id KF J = CS (aI cx F id op) KF := by
 have hw := dV (w := w) h1 h2;obtain rfl : b = w := by simpa using h3
 show (match bg ops F (some (j, b)) with
  | some b' => (b' = true → CS (aI cx F id op) KF) ∧ (b' = false → J)
  | none => False) = _
 rw [hw]
 cases b <;> simp
theorem Ed {j d : Nat} {w b : Bool} (h1 : dI ops j = some d) (h2 : sl F d = .bool b) (h3 : (b == !w) = true) : qD cx ops ⟨dst, op, ty, pos, af, some (j, w)⟩ F id KF J = J := by
 have hw := dV (w := w) h1 h2;obtain rfl : b = !w := by simpa using h3
 show (match bg ops F (some (j, w)) with
  | some b' => (b' = true → CS (aI cx F id op) KF) ∧ (b' = false → J)
  | none => False) = _
 rw [hw]
 cases w <;> simp
theorem BC {j d : Nat} {w : Bool} (h1 : dI ops j = some d) (h2 : sl F d = .undef) : qD cx ops ⟨dst, op, ty, pos, af, some (j, w)⟩ F id KF J = J := by
 obtain ⟨p, e1, e2⟩ := iK ops j d h1;have hw : bg ops F (some (j, w)) = some false := by simp [bg, e1, e2, h2, AV.undef]
 show (match bg ops F (some (j, w)) with
  | some b' => (b' = true → CS (aI cx F id op) KF) ∧ (b' = false → J)
  | none => False) = _
 rw [hw];simp
theorem freP_some {v : AV} {x : bW} : CS (some (v, x)) KF = KF v x := rfl
theorem valP_val {v : AV} {S' : AS} : Bv (.val v S') K = K v := rfl
theorem aopIs_val {v u : AV} {S' : AS} : tQ (.val u S') v = (u = v) := rfl
variable {v : AV}
theorem reP_free : reP cx ops F S ⟨dst, op, ty, pos, af, none⟩ v = tQ (bq cx F S ⟨dst, op, ty, pos, af, none⟩) v := by simp [reP, bg]
theorem reP_run {j d : Nat} {w b : Bool} (h1 : dI ops j = some d) (h2 : sl F d = .bool b) (h3 : (b == w) = true) : reP cx ops F S ⟨dst, op, ty, pos, af, some (j, w)⟩ v = tQ (bq cx F S ⟨dst, op, ty, pos, af, some (j, w)⟩) v := by
 have hw := dV (w := w) h1 h2;obtain rfl : b = w := by simpa using h3
 show (match bg ops F (some (j, b)) with
  | some b' => (b' = true → tQ (bq cx F S ⟨dst, op, ty, pos, af, some (j, b)⟩) v) ∧ (b' = false → v = AV.undef)
  | none => False) = _
 rw [hw]
 cases b <;> simp
theorem reP_skip {j d : Nat} {w b : Bool} (h1 : dI ops j = some d) (h2 : sl F d = .bool b) (h3 : (b == !w) = true) : reP cx ops F S ⟨dst, op, ty, pos, af, some (j, w)⟩ AV.undef = True := by
 have hw := dV (w := w) h1 h2;obtain rfl : b = !w := by simpa using h3
 show (match bg ops F (some (j, w)) with
  | some b' => (b' = true → tQ (bq cx F S ⟨dst, op, ty, pos, af, some (j, w)⟩) AV.undef) ∧ (b' = false → AV.undef = AV.undef)
  | none => False) = _
 rw [hw]
 cases w <;> simp
theorem reP_undef {j d : Nat} {w : Bool} (h1 : dI ops j = some d) (h2 : sl F d = .undef) : reP cx ops F S ⟨dst, op, ty, pos, af, some (j, w)⟩ AV.undef = True := by
 obtain ⟨p, e1, e2⟩ := iK ops j d h1;have hw : bg ops F (some (j, w)) = some false := by simp [bg, e1, e2, h2, AV.undef]
 show (match bg ops F (some (j, w)) with
  | some b' => (b' = true → tQ (bq cx F S ⟨dst, op, ty, pos, af, some (j, w)⟩) AV.undef) ∧ (b' = false → AV.undef = AV.undef)
  | none => False) = _
 rw [hw];simp
theorem okN_zero : okN 0 0 v = True := rfl
theorem okN_back {b k : Nat} : okN (b + 1) k v = (okW v = true) := rfl
theorem okN_keep {b k : Nat} : okN b (k + 1) v = (okW v = true) := by cases b <;> rfl
theorem E4 : yQ o v 0 lv = lv := rfl
theorem E5 {k : Nat} : yQ o v (k + 1) lv = ⟨o, v, k + 1⟩ :: lv := rfl
theorem decL_one {l : List Live} : rm (⟨o, v, 1⟩ :: l) = rm l := rfl
theorem decL_more {l : List Live} {n : Nat} : rm (⟨o, v, n + 2⟩ :: l) = ⟨o, v, n + 1⟩ :: rm l := rfl
theorem B4 : nz cx ops F o v 0 sn = True := by cases sn <;> rfl
theorem B5 {n : Nat} : nz cx ops F o v (n + 1) (S :: sn) = (reP cx ops F S o v ∧ nz cx ops F o v n sn) := rfl
theorem EC : mg cx ops F S [] = True := rfl
theorem B3 {x : Live} {l : List Live} : mg cx ops F S (x :: l) = (reP cx ops F S x.o x.v ∧ mg cx ops F S l) := rfl
end
end Go.Am
end
