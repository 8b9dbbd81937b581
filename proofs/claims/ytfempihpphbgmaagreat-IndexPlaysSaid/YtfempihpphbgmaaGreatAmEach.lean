/-
  The abstract machine: a logic for code with several outcomes (a range over a map, a range over a function).
-/
import Derived.Test.YtfempihpphbgmaaGreatAmPrim
import Derived.Test.YtfempihpphbgmaaGreatAmCut
namespace Go.Am
open Go
set_option linter.unusedVariables false
theorem aq.DF {α : Type} {a b : aq α} {p : α → Prop} (ha : a.cR p) (hb : b.cR p) : (aq.app a b).cR p := by
 cases a with
 | err n => exact ha.elim
 | ok x xs =>
  cases b with
  | err n => exact hb.elim
  | ok y ys =>
   refine ⟨ha.1, fun z hz => ?_⟩
   simp only [bd] at hz;rcases List.mem_append.1 hz with h | h
   ·exact ha.2 z h
   ·cases h with
    | head => exact hb.1
    | tail _ h => exact hb.2 z h
theorem aq.cR.bind {α β : Type} {r : aq α} {f : α → aq β} {p : β → Prop} (h : r.cR fun x => (f x).cR p) : (aq.bind r f).cR p := by
 cases r with
 | err n => exact h.elim
 | ok x xs =>
  cases xs with
  | nil => exact h.1
  | cons y ys =>
   show (aq.app (f x) (List.rec (motive := fun _ => α → aq β) (fun y => f y) (fun z _ ih y => aq.app (f y) (ih z)) ys y)).cR p
   obtain ⟨h1, h2⟩ := h;refine aq.DF h1 ?_;clear h1
   induction ys generalizing y with
   | nil => exact h2 y (List.mem_cons_self ..)
   | cons z ys ih => exact aq.DF (h2 y (List.mem_cons_self ..)) (ih z fun u hu => h2 u (List.mem_cons_of_mem _ hu))
theorem aq.cR.pick {α β : Type} {r : aq α} {f : Nat → α → aq β} {p : β → Prop} (hm : ∀ n m x, n ≤ m → aq.Le (f n x) (f m x)) (h : r.cR fun x => ∃ n, (f n x).cR p) : ∃ n, r.cR fun x => (f n x).cR p := by
 cases r with
 | err n => exact h.elim
 | ok x xs =>
  obtain ⟨⟨n, h1⟩, h2⟩ := h;have key : ∀ xs : List α, (∀ y, y ∈ xs → ∃ n, (f n y).cR p) → ∃ n, ∀ y, y ∈ xs → (f n y).cR p := by
   intro xs
   induction xs with
   | nil => intro _; exact ⟨0, fun y hy => by cases hy⟩
   | cons z zs ih =>
    intro hz;obtain ⟨a, ha⟩ := hz z (List.mem_cons_self ..);obtain ⟨b, hb⟩ := ih fun y hy => hz y (List.mem_cons_of_mem _ hy)
    refine ⟨a + b, fun y hy => ?_⟩
    cases hy with
    | head => exact (hm a (a + b) z (Nat.le_add_right ..)).all ha
    | tail _ hy => exact (hm b (a + b) y (Nat.le_add_left ..)).all (hb y hy)
  obtain ⟨m, eH⟩ := key xs h2;exact ⟨n + m, (hm n (n + m) x (Nat.le_add_right ..)).all h1, fun y hy => (hm m (n + m) y (Nat.le_add_left ..)).all (eH y hy)⟩
def cQ (cx : Cx) (f : FuncId) (as : List AV) (S : AS) (Q : AV → AS → Prop) : Prop := ∃ n, (call cx n f as S).cR fun r => bz r.1 = false ∧ Q r.1 r.2
theorem cQ.mono {cx : Cx} {f : FuncId} {as : List AV} {S : AS} {Q Q' : AV → AS → Prop} (h : cQ cx f as S Q) (k : ∀ v S', Q v S' → Q' v S') : cQ cx f as S Q' := by
 obtain ⟨n, h⟩ := h;exact ⟨n, h.mono fun r hr => ⟨hr.1, k _ _ hr.2⟩⟩
theorem ai.each {cx : Cx} {f : FuncId} {as : List AV} {S : AS} {Q : AV → AS → Prop} (h : ai cx f as S Q) : cQ cx f as S Q := by
 obtain ⟨n, h⟩ := h;exact ⟨n, h.all⟩
theorem eR {cx : Cx} {f : FuncId} {as : List AV} {S T : AS} {v : AV} (h : ∀ Q : AV → AS → Prop, ai cx f as S Q = Q v T) (Q : AV → AS → Prop) : cQ cx f as S Q = Q v T := by
 refine propext ⟨fun hq => ?_, fun hq => ai.each (by rw [h]; exact hq)⟩
 obtain ⟨n, hn⟩ := hq;have h1 : ai cx f as S fun v' T' => v' = v ∧ T' = T := by rw [h]; exact ⟨rfl, rfl⟩
 obtain ⟨m, ⟨v', T'⟩, e, _, h2, h3⟩ := h1;simp only at h2 h3;subst h2 h3;have h4 := (eD (cx := cx) (Nat.le_add_right n m) (.fn f) as S).all hn;have h5 := eD (cx := cx) (Nat.le_add_left m n) (.fn f) as S _ _ e;unfold call at h4;rw [h5] at h4;exact h4.1.2
def oo (cx : Cx) (id : Nat) (as : List AV) (S : AS) (Q : AV → AS → Prop) : Prop := ∃ n, (nv (exec cx n) id as S).cR fun r => bz r.1 = false ∧ Q r.1 r.2
theorem oo.mono {cx : Cx} {id : Nat} {as : List AV} {S : AS} {Q Q' : AV → AS → Prop} (h : oo cx id as S Q) (k : ∀ v S', Q v S' → Q' v S') : oo cx id as S Q' := by
 obtain ⟨n, h⟩ := h;exact ⟨n, h.mono fun r hr => ⟨hr.1, k _ _ hr.2⟩⟩
def va (cx : Cx) (r : AR) (K : AV → AS → Prop) : Prop :=
 match r with
 | .val v S' => K v S'
 | .enter f as S' => cQ cx f as S' K
 | .round id as S' => oo cx id as S' K
 | .many l => l ≠ [] ∧ ∀ y, y ∈ l → K y.1 y.2
 | _ => False
def jR (cx : Cx) (ops : List Oper) (o : Oper) (F : Fr) (S : AS) (K : AV → AS → Prop) : Prop :=
 match bg ops F o.guard with
 | some b => (b = true → va cx (bq cx F S o) K) ∧ (b = false → K .undef S)
 | none => False
def tY (cx : Cx) (ops : List Oper) : List Oper → Fr → AS → (Fr → AS → Prop) → Prop
 | [], F, S, Q => Q F S
 | o :: l, F, S, Q => jR cx ops o F S fun v S' => tY cx ops l (up F o.dst v) S' Q
theorem yx {r : aq (AV × AS)} {K : AV → AS → Prop} (h : r.cR fun r => bz r.1 = false ∧ K r.1 r.2) : (aq.bind r retR).cR fun r => r.1 = false ∧ K r.2.1 r.2.2 :=
 aq.cR.bind (h.mono fun r hr => by rw [BW hr.1]; exact ⟨⟨rfl, hr.2⟩, fun y hy => by cases hy⟩)
theorem one_okE {cx : Cx} {ops : List Oper} {o : Oper} {F : Fr} {S : AS} {K : AV → AS → Prop} (h : jR cx ops o F S K) : ∃ n, (one cx (bu cx (exec cx n)) ops o F S).cR fun r => r.1 = false ∧ K r.2.1 r.2.2 := by
 unfold jR at h;unfold one;rw [jN]
 cases hw : bg ops F o.guard with
 | none => rw [hw] at h; exact h.elim
 | some b =>
  rw [hw] at h
  cases b with
  | true =>
   have h1 := h.1 rfl;unfold va at h1;simp only []
   cases ha : bq cx F S o with
   | val v S' => rw [ha] at h1; exact ⟨0, ⟨rfl, h1⟩, fun y hy => by cases hy⟩
   | round f as S' => rw [ha] at h1; obtain ⟨n, h1⟩ := h1; exact ⟨n, yx h1⟩
   | ei v S' => rw [ha] at h1; exact h1.elim
   | many l =>
    rw [ha] at h1;obtain ⟨h2, h3⟩ := h1;refine ⟨0, ?_⟩
    cases l with
    | nil => exact absurd rfl h2
    | cons x xs =>
     refine ⟨⟨rfl, h3 x (List.mem_cons_self ..)⟩, fun y hy => ?_⟩
     obtain ⟨z, hz, rfl⟩ := List.mem_map.1 hy;exact ⟨rfl, h3 z (List.mem_cons_of_mem _ hz)⟩
   | enter f as S' => rw [ha] at h1; obtain ⟨n, h1⟩ := h1; exact ⟨n, yx h1⟩
   | err n => rw [ha] at h1; exact h1.elim
  | false => exact ⟨0, ⟨rfl, h.2 rfl⟩, fun y hy => by cases hy⟩
theorem pL {cx : Cx} {ops : List Oper} : ∀ {l : List Oper} {F : Fr} {S : AS} {Q : Fr → AS → Prop}, C6 F.n l = true → tY cx ops l F S Q →
  ∃ n, (bM cx (bu cx (exec cx n)) ops l F S).cR fun r => r.1 = none ∧ Q r.2.1 r.2.2 ∧ r.2.1.n = F.n
 | [], F, S, Q, _, h => ⟨0, ⟨rfl, h, rfl⟩, fun y hy => by cases hy⟩
 | o :: l, F, S, Q, hd, h => by
  have mv : (AG F.n o && C6 F.n l) = true := hd;rw [Bool.and_eq_true] at mv;have hs : jR cx ops o F S fun v S' => tY cx ops l (up F o.dst v) S' Q := h
  have wY : ∀ K, bM cx K ops (o :: l) F S = (match eK o with
   | none => aq.bind (one cx K ops o F S) fun r => cond r.1 (.ok (some r.2.1, F, r.2.2) []) (bM cx K ops l (bj F o.dst r.2.1) r.2.2)
   | some c => match wanted ops F o with
    | some true => match mD F c with
     | some d => bM cx K ops l (bj ⟨F.t, F.n, d :: F.ds⟩ o.dst .undef) S
     | none => .err 1009
    | some false => bM cx K ops l (bj F o.dst .undef) S
    | none => .err 1010) := fun K => rfl
  cases CL : eK o with
  | some c =>
   unfold jR at hs
   cases hw : bg ops F o.guard with
   | none => rw [hw] at hs; exact hs.elim
   | some b =>
    rw [hw] at hs
    cases b with
    | true =>
     obtain ⟨m, hm⟩ := zt (cx := cx) (F := F) (S := S) CL;have h1 := hs.1 rfl;rw [hm] at h1;exact h1.elim
    | false =>
     obtain ⟨m, h3⟩ := pL (l := l) (by rw [mZ]; exact mv.2) (hs.2 rfl)
     refine ⟨m, ?_⟩;rw [wY, CL];simp only [jN, hw];rw [qL _ mv.1];exact h3.mono fun r hr => ⟨hr.1, hr.2.1, hr.2.2.trans (mZ ..)⟩
  | none =>
   obtain ⟨n, h1⟩ := one_okE hs;have h2 : (one cx (bu cx (exec cx n)) ops o F S).cR fun r => ∃ m, (cond r.1 (.ok (some r.2.1, F, r.2.2) []) (bM cx (bu cx (exec cx m)) ops l (bj F o.dst r.2.1) r.2.2)).cR fun r => r.1 = none ∧ Q r.2.1 r.2.2 ∧ r.2.1.n = F.n := by
    refine h1.mono fun r hr => ?_
    obtain ⟨m, h3⟩ := pL (l := l) (by rw [mZ]; exact mv.2) hr.2
    refine ⟨m, ?_⟩;rw [hr.1, cond_false, qL _ mv.1];exact h3.mono fun r hr => ⟨hr.1, hr.2.1, hr.2.2.trans (mZ ..)⟩
   obtain ⟨m, h3⟩ := aq.cR.pick (f := fun m (r : Bool × AV × AS) => cond r.1 (.ok (some r.2.1, F, r.2.2) []) (bM cx (bu cx (exec cx m)) ops l (bj F o.dst r.2.1) r.2.2))
    (fun a b x qz => uL (gK (eD qz) ops l _ _)) h2
   refine ⟨n + m, ?_⟩;rw [wY, CL];simp only [];refine aq.cR.bind ?_;refine ((one_le (cx := cx) (K := bu cx (exec cx n)) (K' := bu cx (exec cx (n + m))) (eD (Nat.le_add_right n m)) ops o F S).all h3).mono fun r hr => ?_
   exact (uL (gK (eD (Nat.le_add_left m n)) ops l _ _)).all hr
def zy (cx : Cx) (b : Code) (F : Fr) (S : AS) (Q : Ex → Fr → AS → Prop) : Prop := codeOk cx F.n b = true → ∃ n, (exec cx n (.loop b) F S).cR fun o => Q o.ex o.F o.S ∧ o.F.n = F.n
def Bh (cx : Cx) (x : Operand) (ps : Array Tmp) (a b : Code) (F : Fr) (S : AS) (Q : Ex → Fr → AS → Prop) : Prop :=
 (bZ a && bZ b) = true ∧ ∃ g first captured, eval F x = .func (.func g) first captured ∧
  cQ cx g (dB first (.obj .yld (Nat.succ S.next) :: captured)) ⟨(S.h.set S.next (.dS (.wh true))).set (Nat.succ S.next) (.dS (.loop .ready none F ps a b)), Nat.succ (Nat.succ S.next)⟩
   fun _ T => ∃ st F' ps' a' b', st ≠ .busy ∧ T.h.get (Nat.succ S.next) = some (.dS (.loop st none F' ps' a' b')) ∧ Q .normal ⟨F.t, F.n, .mark S.next :: F.ds⟩ (jT T (Nat.succ S.next) (.loop .exhausted none F' ps' a' b'))
def mX (cx : Cx) : Code → Fr → AS → (Ex → Fr → AS → Prop) → Prop
 | .skip, F, S, Q => Q .normal F S
 | .ret, F, S, Q => Q .ret F S
 | .exit id, F, S, Q => Q (.exit id) F S
 | .region _ ops false, F, S, Q => tY cx ops.toList ops.toList F S (Q .normal)
 | .region _ ops true, F, S, Q => iR cx ops.toList F S (Q .normal)
 | .seq a b, F, S, Q => mX cx a F S (ju (fun F' S' => mX cx b F' S' Q) Q)
 | .cond x a b, F, S, Q => iC (eval F x) (mX cx a F S Q) (mX cx b F S Q)
 | .block id b, F, S, Q => mX cx b F S (kh id Q)
 | .loop b, F, S, Q => zy cx b F S Q
 | .rangeFunc x ps a b, F, S, Q => Bh cx x ps a b F S Q
 | _, _, _, _ => False
theorem lL {cx : Cx} {n m : Nat} (h : n ≤ m) {c : Code} {F : Fr} {S : AS} : aq.Le (exec cx n c F S) (exec cx m c F S) := iQ h c F S
theorem zD {cx : Cx} : ∀ (c : Code) {F : Fr} {S : AS} {Q : Ex → Fr → AS → Prop}, codeOk cx F.n c = true → mX cx c F S Q → ∃ n, (exec cx n c F S).cR fun o => Q o.ex o.F o.S ∧ o.F.n = F.n := by
 intro c
 induction c with
 | skip => intro F S Q _ h; exact ⟨1, ⟨h, rfl⟩, fun y hy => by cases hy⟩
 | ret => intro F S Q _ h; exact ⟨1, ⟨h, rfl⟩, fun y hy => by cases hy⟩
 | exit id => intro F S Q _ h; exact ⟨1, ⟨h, rfl⟩, fun y hy => by cases hy⟩
 | region id ops draw =>
  intro F S Q hc h
  cases draw with
  | false =>
   obtain ⟨n, h⟩ := pL hc h;refine ⟨n + 1, ?_⟩;show (aq.bind (bM cx (bu cx (exec cx n)) ops.toList ops.toList F S) fun r => match r.1 with
    | none => .ok (⟨.normal, r.2.1, r.2.2⟩ : Out) []
    | some v => .ok (⟨.ei v, r.2.1, r.2.2⟩ : Out) []).cR _
   exact aq.cR.bind (h.mono fun r hr => by rw [hr.1]; exact ⟨hr.2, fun y hy => by cases hy⟩)
  | true =>
   obtain ⟨n, h⟩ := zd hc h;refine ⟨n + 1, ?_⟩;show (aq.bind (cN cx (bu cx (exec cx n)) ops.toList F S) fun r => .ok (⟨.normal, r.1, r.2⟩ : Out) []).cR _
   exact aq.cR.bind (h.all.mono fun r hr => ⟨⟨hr.1, hr.2.1⟩, fun y hy => by cases hy⟩)
 | seq a b vL rE =>
  intro F S Q hc h;have iP : (codeOk cx F.n a && codeOk cx F.n b) = true := hc;rw [Bool.and_eq_true] at iP;obtain ⟨n, h1⟩ := vL iP.1 h;have h4 : (exec cx n a F S).cR fun o => ∃ m, (match o.ex with | .normal => exec cx m b o.F o.S | _ => .ok o []).cR fun o => Q o.ex o.F o.S ∧ o.F.n = F.n := by
   refine h1.mono fun o ho => ?_
   obtain ⟨e, F', S'⟩ := o;obtain ⟨h2, h3⟩ := ho
   cases e with
   | normal =>
    obtain ⟨m, h5⟩ := rE (F := F') (by rw [h3]; exact iP.2) h2
    exact ⟨m, h5.mono fun o ho => ⟨ho.1, ho.2.trans h3⟩⟩
   | goto l => exact ⟨0, ⟨h2, h3⟩, fun y hy => by cases hy⟩
   | ei v => exact ⟨0, ⟨h2, h3⟩, fun y hy => by cases hy⟩
   | exit id => exact ⟨0, ⟨h2, h3⟩, fun y hy => by cases hy⟩
   | ret => exact ⟨0, ⟨h2, h3⟩, fun y hy => by cases hy⟩
  have tC : ∀ p q (o : Out), p ≤ q → aq.Le (match o.ex with | .normal => exec cx p b o.F o.S | _ => .ok o []) (match o.ex with | .normal => exec cx q b o.F o.S | _ => .ok o []) := by
   intro p q o CD
   cases o.ex <;> first | exact lL CD | exact aq.Le.refl _
  obtain ⟨m, h5⟩ := aq.cR.pick (f := fun m (o : Out) => match o.ex with | .normal => exec cx m b o.F o.S | _ => .ok o []) tC h4
  refine ⟨n + m + 1, ?_⟩;show (aq.bind (exec cx (n + m) a F S) fun o => match o.ex with | .normal => exec cx (n + m) b o.F o.S | _ => .ok o []).cR _
  exact aq.cR.bind (((lL (Nat.le_add_right n m)).all h5).mono fun o ho => (tC m (n + m) o (Nat.le_add_left ..)).all ho)
 | cond x a b vL rE =>
  intro F S Q hc h;have iP : (codeOk cx F.n a && codeOk cx F.n b) = true := hc;rw [Bool.and_eq_true] at iP;have h' : iC (eval F x) (mX cx a F S Q) (mX cx b F S Q) := h;unfold iC at h'
  cases hx : eval F x <;> rw [hx] at h' <;> (try exact h'.elim)
  rename_i t
  cases t with
  | true =>
   obtain ⟨n, h1⟩ := vL iP.1 (h'.1 rfl);refine ⟨n + 1, ?_⟩;show (match eval F x with | .bool true => exec cx n a F S | .bool false => exec cx n b F S | _ => .err 3001).cR _
   rw [hx]; exact h1
  | false =>
   obtain ⟨n, h1⟩ := rE iP.2 (h'.2 rfl);refine ⟨n + 1, ?_⟩;show (match eval F x with | .bool true => exec cx n a F S | .bool false => exec cx n b F S | _ => .err 3001).cR _
   rw [hx]; exact h1
 | block id b rE =>
  intro F S Q hc h;obtain ⟨n, h1⟩ := rE hc h;refine ⟨n + 1, ?_⟩;show (aq.bind (exec cx n b F S) fun o => match o.ex with
   | .exit j => cond (Nat.beq j id) (.ok ⟨.normal, o.F, o.S⟩ []) (.ok o [])
   | _ => .ok o []).cR _
  refine aq.cR.bind (h1.mono fun o ho => ?_)
  obtain ⟨e, F', S'⟩ := o;obtain ⟨h2, h3⟩ := ho
  cases e with
  | normal => exact ⟨⟨h2, h3⟩, fun y hy => by cases hy⟩
  | ret => exact ⟨⟨h2, h3⟩, fun y hy => by cases hy⟩
  | goto l => exact ⟨⟨h2, h3⟩, fun y hy => by cases hy⟩
  | ei v => exact ⟨⟨h2, h3⟩, fun y hy => by cases hy⟩
  | exit j =>
   have lV : if j = id then Q .normal F' S' else Q (.exit j) F' S' := h2
   simp only [aK]
   by_cases hj : j = id
   ·rw [if_pos hj] at lV; rw [decide_eq_true hj]; exact ⟨⟨lV, h3⟩, fun y hy => by cases hy⟩
   ·rw [if_neg hj] at lV; rw [decide_eq_false hj]; exact ⟨⟨lV, h3⟩, fun y hy => by cases hy⟩
 | loop b _ => intro F S Q hc h; exact h hc
 | rangeFunc x ps a b _ _ =>
  intro F S Q _ h;obtain ⟨h0, g, first, captured, hx, n, h1⟩ := h;refine ⟨n + 1, ?_⟩;show (jW cx (exec cx n) x ps a b F S).cR _;unfold jW;rw [h0, cond_true, hx];have DU := h1;unfold call at DU;refine aq.cR.bind (DU.mono fun r hr => ?_)
  obtain ⟨hp, st, F', ps', a', b', fQ, hg, hq⟩ := hr;obtain ⟨v, T⟩ := r;have hnp : ∀ {β : Type} {p : AV → β} {k : β}, pP v p k = k := by
   intro β p k
   cases v <;> first | rfl | cases hp
  unfold lr;rw [hnp];simp only [] at hg hq ⊢;rw [hg]
  cases st with
  | busy => exact absurd rfl fQ
  | ready => exact ⟨⟨hq, rfl⟩, fun y hy => by cases hy⟩
  | done => exact ⟨⟨hq, rfl⟩, fun y hy => by cases hy⟩
  | exhausted => exact ⟨⟨hq, rfl⟩, fun y hy => by cases hy⟩
 | scope b rE => intro F S Q _ h; exact h.elim
 | label l => intro F S Q _ h; exact h.elim
 | goto l => intro F S Q _ h; exact h.elim
 | refuse s => intro F S Q _ h; exact h.elim
theorem roundE_of {cx : Cx} {id : Nat} {as : List AV} {S : AS} {K : AV → AS → Prop} {j : Option Code} {F F1 : Fr} {ps : Array Tmp} {a b : Code} (hg : S.h.get id = some (.dS (.loop .ready j F ps a b))) (hp : zW ⟨F.t, F.n, []⟩ ps.toList as = some F1)
  (ha : codeOk cx F1.n a = true) (hb : codeOk cx F1.n b = true)
  (h : mX cx a F1 S fun e F2 S2 => e = .normal ∧ ∃ j' F' a' b', S2.h.get id = some (.dS (.loop .ready j' F' ps a' b')) ∧
   mX cx b F2 (jT S2 id (.loop .busy j' F' ps a' b')) fun e2 F3 S3 => e2 = .normal ∧ ∃ st j3 F4 ps3 a3 b3, S3.h.get id = some (.dS (.loop st j3 F4 ps3 a3 b3)) ∧ K (.bool true) (jT S3 id (.loop .ready none F4 ps3 a3 b3))) : oo cx id as S K := by
 obtain ⟨n, h1⟩ := zD a ha h;have h2 : (exec cx n a F1 S).cR fun o => ∃ m, (match o.ex with
   | .normal => match o.S.h.get id with
    | some (.dS (.loop .ready j F ps a' b')) => aq.bind (exec cx m b o.F (jT o.S id (.loop .busy j F ps a' b'))) fun o2 => jV id o2.ex o2.S
    | _ => .err 2102
   | _ => .err 2103 : aq (AV × AS)).cR fun r => bz r.1 = false ∧ K r.1 r.2 := by
  refine h1.mono fun o ho => ?_
  obtain ⟨e, F2, S2⟩ := o;obtain ⟨⟨he, j', F', a', b', hg2, h3⟩, hn⟩ := ho;simp only [] at he hg2 h3 hn ⊢;subst he;obtain ⟨m, h4⟩ := zD b (F := F2) (by rw [hn]; exact hb) h3
  refine ⟨m, ?_⟩;simp only [hg2];refine aq.cR.bind (h4.mono fun o2 qw => ?_)
  obtain ⟨e2, F3, S3⟩ := o2;obtain ⟨⟨he2, st, j3, F4, ps3, a3, b3, hg3, hk⟩, _⟩ := qw;simp only [] at he2 hg3 hk ⊢;subst he2;unfold jV;rw [hg3];exact ⟨⟨rfl, hk⟩, fun y hy => by cases hy⟩
 have tC : ∀ p q (o : Out), p ≤ q → aq.Le (match o.ex with
   | .normal => match o.S.h.get id with
    | some (.dS (.loop .ready j F ps a' b')) => aq.bind (exec cx p b o.F (jT o.S id (.loop .busy j F ps a' b'))) fun o2 => jV id o2.ex o2.S
    | _ => .err 2102
   | _ => .err 2103 : aq (AV × AS)) (match o.ex with
   | .normal => match o.S.h.get id with
    | some (.dS (.loop .ready j F ps a' b')) => aq.bind (exec cx q b o.F (jT o.S id (.loop .busy j F ps a' b'))) fun o2 => jV id o2.ex o2.S
    | _ => .err 2102
   | _ => .err 2103 : aq (AV × AS)) := by
  intro p q o CD
  split
  ·split
   ·exact aq.Le.bind (lL CD) fun _ => aq.Le.refl _
   ·exact aq.Le.refl _
  ·exact aq.Le.refl _
 obtain ⟨m, h5⟩ := aq.cR.pick tC h2;refine ⟨n + m, ?_⟩;unfold nv;rw [hg];simp only [hp];exact aq.cR.bind (((lL (Nat.le_add_right n m)).all h5).mono fun o ho => (tC m (n + m) o (Nat.le_add_left ..)).all ho)
theorem qU {cx : Cx} {b : Code} {F : Fr} {S : AS} {Q : Ex → Fr → AS → Prop} (I : Nat → Fr → AS → Prop) (k : Nat) (h0 : I k F S)
  (h : ∀ (k : Nat) (F' : Fr) (S' : AS), F'.n = F.n → I k F' S' → mX cx b F' S' (ju (fun F2 S2 => ∃ j, j < k ∧ I j F2 S2) Q)) : zy cx b F S Q := by
 intro hc;have main : ∀ (k : Nat) (F' : Fr) (S' : AS), I k F' S' → F'.n = F.n → ∃ n, (exec cx n (.loop b) F' S').cR fun o => Q o.ex o.F o.S ∧ o.F.n = F.n := by
  intro k
  induction k using Nat.strongRecOn with
  | ind k ih =>
   intro F' S' hI hn;obtain ⟨n, h1⟩ := zD b (by rw [hn]; exact hc) (h k F' S' hn hI)
   have h4 : (exec cx n b F' S').cR fun o => ∃ m, (match o.ex with | .normal => exec cx m (.loop b) o.F o.S | _ => .ok o []).cR fun o => Q o.ex o.F o.S ∧ o.F.n = F.n := by
    refine h1.mono fun o ho => ?_
    obtain ⟨e, F2, S2⟩ := o;obtain ⟨h2, h3⟩ := ho
    cases e with
    | normal => obtain ⟨j, hj, hI2⟩ := h2; exact ih j hj F2 S2 hI2 (h3.trans hn)
    | exit id => exact ⟨0, ⟨h2, h3.trans hn⟩, fun y hy => by cases hy⟩
    | ret => exact ⟨0, ⟨h2, h3.trans hn⟩, fun y hy => by cases hy⟩
    | goto l => exact ⟨0, ⟨h2, h3.trans hn⟩, fun y hy => by cases hy⟩
    | ei v => exact ⟨0, ⟨h2, h3.trans hn⟩, fun y hy => by cases hy⟩
   have tC : ∀ p q (o : Out), p ≤ q → aq.Le (match o.ex with | .normal => exec cx p (.loop b) o.F o.S | _ => .ok o []) (match o.ex with | .normal => exec cx q (.loop b) o.F o.S | _ => .ok o []) := by
    intro p q o CD
    cases o.ex <;> first | exact lL CD | exact aq.Le.refl _
   obtain ⟨m, h5⟩ := aq.cR.pick (f := fun m (o : Out) => match o.ex with | .normal => exec cx m (.loop b) o.F o.S | _ => .ok o []) tC h4
   refine ⟨n + m + 1, ?_⟩;show (aq.bind (exec cx (n + m) b F' S') fun o => match o.ex with | .normal => exec cx (n + m) (.loop b) o.F o.S | _ => .ok o []).cR _
   exact aq.cR.bind (((lL (Nat.le_add_right n m)).all h5).mono fun o ho => (tC m (n + m) o (Nat.le_add_left ..)).all ho)
 exact main k F S h0 rfl
def mu (cx : Cx) (fn : Func) (F : Fr) (Q : AV → AS → Prop) : List uq → AS → Prop
 | [], S => uj (jD cx F S fn.results.toList |>.map fun vs => match vs with | [v] => v | vs => .tuple vs) S Q
 | .mark id :: ds, S => S.h.get id = some (.dS (.wh true)) ∧ mu cx fn F Q ds (jT S id (.wh false))
 | _, _ => False
def bodyE (cx : Cx) (fn : Func) (Q : AV → AS → Prop) : Ex → Fr → AS → Prop
 | .exit _, _, _ => False
 | .goto _, _, _ => False
 | .ei _, _, _ => False
 | _, F, S => mu cx fn F Q F.ds S
theorem ss {cx : Cx} {fn : Func} {F : Fr} {Q : AV → AS → Prop} {ih : Code → Fr → AS → aq Out} : ∀ {ds : List uq} {S : AS}, mu cx fn F Q ds S → (eo cx ih fn F ds .ret S).cR fun r => bz r.1 = false ∧ Q r.1 r.2
 | [], S, h => by
  show (match cO cx fn F S with | some v => (.ok (v, S) [] : aq (AV × AS)) | none => .err 2001).cR _
  have h' : uj (cO cx fn F S) S Q := by rw [mc]; exact h
  cases hv : cO cx fn F S with
  | none => rw [hv] at h'; exact h'.elim
  | some v => rw [hv] at h'; exact ⟨h', fun y hy => by cases hy⟩
 | .mark id :: ds, S, h => by
  have e : eo cx ih fn F (.mark id :: ds) .ret S = (match S.h.get id with
    | some (.dS (.wh true)) => eo cx ih fn F ds .ret (jT S id (.wh false))
    | _ => .err 2011) := rfl
  rw [e, h.1];exact ss h.2
 | .call f as cs :: ds, S, h => h.elim
theorem sQ {cx : Cx} {f : FuncId} {fn : Func} {c : Code} {as : List AV} {S : AS} {Q : AV → AS → Prop} (hu : cx.eh.get f = none) (hp : cx.aV.get f = none) (hf : cx.fns.get f = some fn) (hb : fn.body = some c) (hc : codeOk cx fn.ntmps c = true) (hn : as.length ≤ fn.ntmps)
  (h : ∀ F : Fr, F.n = fn.ntmps → F.ds = [] → (∀ t, sl F t = (as[t]?).getD .undef) → mX cx c F S (bodyE cx fn Q)) : cQ cx f as S Q := by
 have df : (kx as fn.ntmps).n = fn.ntmps := by rw [n_initF]; omega
 obtain ⟨n, h1⟩ := zD c (F := kx as fn.ntmps) (by rw [df]; exact hc) (h _ df rfl (BI as _))
 refine ⟨n, ?_⟩;unfold call bu nD CU;simp only [hu, hp, hf, hb];refine aq.cR.bind (h1.mono fun o ho => ?_)
 obtain ⟨e, F', S'⟩ := o;obtain ⟨h2, _⟩ := ho
 cases e with
 | normal => exact ss h2
 | ret => exact ss h2
 | exit id => exact h2.elim
 | goto l => exact h2.elim
 | ei v => exact h2.elim
theorem runE_mono {cx : Cx} {r : AR} {K K' : AV → AS → Prop} (h : va cx r K) (k : ∀ v S', K v S' → K' v S') : va cx r K' := by
 unfold va at h ⊢
 cases r with
 | val v S' => exact k _ _ h
 | enter f as S' => exact cQ.mono h k
 | err n => exact h
 | round f as S' => exact oo.mono h k
 | ei v S' => exact h
 | many l => exact ⟨h.1, fun y hy => k _ _ (h.2 y hy)⟩
theorem Eb {cx : Cx} {ops : List Oper} {o : Oper} {F : Fr} {S : AS} {K K' : AV → AS → Prop} (h : jR cx ops o F S K) (k : ∀ v S', K v S' → K' v S') : jR cx ops o F S K' := by
 unfold jR at h ⊢
 cases hw : bg ops F o.guard with
 | none => rw [hw] at h; exact h
 | some b => rw [hw] at h; exact ⟨fun hb => runE_mono (h.1 hb) k, fun hb => k _ _ (h.2 hb)⟩
theorem yE {cx : Cx} {ops : List Oper} {Q Q' : Fr → AS → Prop} : ∀ {l : List Oper} {F : Fr} {S : AS}, tY cx ops l F S Q → (∀ F' S', Q F' S' → Q' F' S') → tY cx ops l F S Q'
 | [], _, _, h, k => k _ _ h
 | _ :: _, _, _, h, k => Eb h fun _ _ h' => yE h' k
theorem LoopE_mono {cx : Cx} {b : Code} {F : Fr} {S : AS} {Q Q' : Ex → Fr → AS → Prop} (h : zy cx b F S Q) (hq : ∀ e F S, Q e F S → Q' e F S) : zy cx b F S Q' := fun hc => by
 obtain ⟨n, h2⟩ := h hc;exact ⟨n, h2.mono fun o ho => ⟨hq _ _ _ ho.1, ho.2⟩⟩
theorem wpE_mono {cx : Cx} : ∀ (c : Code) {F : Fr} {S : AS} {Q Q' : Ex → Fr → AS → Prop}, mX cx c F S Q → (∀ e F S, Q e F S → Q' e F S) → mX cx c F S Q' := by
 intro c
 induction c with
 | skip => intro F S Q Q' h k; exact k _ _ _ h
 | region id ops d =>
  intro F S Q Q' h k
  cases d with
  | false => exact yE (show tY cx ops.toList ops.toList F S (Q .normal) from h) fun F S h => k _ _ _ h
  | true => exact tJ _ (show iR cx ops.toList F S (Q .normal) from h) fun F S h => k _ _ _ h
 | seq a b vL rE =>
  intro F S Q Q' h k;exact vL (show mX cx a F S (ju (fun F' S' => mX cx b F' S' Q) Q) from h) (pG (fun F S h => rE h k) k)
 | cond x a b vL rE =>
  intro F S Q Q' h k;exact wu (show iC (eval F x) (mX cx a F S Q) (mX cx b F S Q) from h) (fun h => vL h k) (fun h => rE h k)
 | block id b ih =>
  intro F S Q Q' h k;exact ih (show mX cx b F S (kh id Q) from h) (tL k)
 | loop b _ =>
  intro F S Q Q' h k;exact LoopE_mono (show zy cx b F S Q from h) k
 | rangeFunc x p a b _ _ =>
  intro F S Q Q' h k;obtain ⟨h0, g, first, captured, hx, h1⟩ := (show Bh cx x p a b F S Q from h);exact ⟨h0, g, first, captured, hx, cQ.mono h1 fun _ T ⟨st, F', ps', a', b', q1, q2, q3⟩ => ⟨st, F', ps', a', b', q1, q2, k _ _ _ q3⟩⟩
 | exit id => intro F S Q Q' h k; exact k _ _ _ h
 | scope b ih => intro F S Q Q' h k; exact (show False from h).elim
 | label l => intro F S Q Q' h k; exact (show False from h).elim
 | goto l => intro F S Q Q' h k; exact (show False from h).elim
 | ret => intro F S Q Q' h k; exact k _ _ _ h
 | refuse w => intro F S Q Q' h k; exact (show False from h).elim
section
variable {cx : Cx} {ops l : List Oper} {o : Oper} {F : Fr} {S : AS} {K : AV → AS → Prop} {Q : Ex → Fr → AS → Prop} {R : Fr → AS → Prop}
theorem opsE_nil : tY cx ops [] F S R = R F S := rfl
def kontE (cx : Cx) (ops l : List Oper) (F : Fr) (d : Option Nat) (R : Fr → AS → Prop) (v : AV) (S' : AS) : Prop := tY cx ops l (up F d v) S' R
theorem kontE_app {d : Option Nat} {v : AV} {S' : AS} : kontE cx ops l F d R v S' = tY cx ops l (up F d v) S' R := rfl
theorem opsE_cons : tY cx ops (o :: l) F S R = jR cx ops o F S (kontE cx ops l F o.dst R) := rfl
theorem Ec {dst : Option Tmp} {op : Op} {ty : TypeId} {pos : String} {af : Array Edge} : jR cx ops ⟨dst, op, ty, pos, af, none⟩ F S K = va cx (bq cx F S ⟨dst, op, ty, pos, af, none⟩) K := by
 simp [jR, bg]
theorem stepM_run {dst : Option Tmp} {op : Op} {ty : TypeId} {pos : String} {af : Array Edge} {j d : Nat} {w b : Bool} (h1 : dI ops j = some d) (h2 : sl F d = .bool b) (h3 : (b == w) = true) :
  jR cx ops ⟨dst, op, ty, pos, af, some (j, w)⟩ F S K = va cx (bq cx F S ⟨dst, op, ty, pos, af, some (j, w)⟩) K := by
 have : w = b := by cases b <;> cases w <;> first | rfl | cases h3
 subst this;simp only [jR, dV h1 h2]
 cases w <;> simp
theorem Ea {dst : Option Tmp} {op : Op} {ty : TypeId} {pos : String} {af : Array Edge} {j d : Nat} {w b : Bool} (h1 : dI ops j = some d) (h2 : sl F d = .bool b) (h3 : (b == !w) = true) :
  jR cx ops ⟨dst, op, ty, pos, af, some (j, w)⟩ F S K = K .undef S := by
 have : w = !b := by cases b <;> cases w <;> first | rfl | cases h3
 subst this;simp only [jR, dV h1 h2]
 cases b <;> simp
theorem runE_val {v : AV} {S' : AS} : va cx (.val v S') K = K v S' := rfl
theorem Ew {f : FuncId} {as : List AV} {S' : AS} : va cx (.enter f as S') K = cQ cx f as S' K := rfl
theorem Eu {id : Nat} {as : List AV} {S' : AS} : va cx (.round id as S') K = oo cx id as S' K := rfl
theorem yr {l : List (AV × AS)} : va cx (.many l) K = (l ≠ [] ∧ ∀ y, y ∈ l → K y.1 y.2) := rfl
theorem wpE_skip : mX cx .skip F S Q = Q .normal F S := rfl
theorem wpE_ret : mX cx .ret F S Q = Q .ret F S := rfl
theorem wpE_exit {id : Nat} : mX cx (.exit id) F S Q = Q (.exit id) F S := rfl
theorem DZ {id : Nat} {l : List Oper} : mX cx (.region id l.toArray false) F S Q = tY cx l l F S (Q .normal) := rfl
theorem wpE_drawn {id : Nat} {l : List Oper} : mX cx (.region id l.toArray true) F S Q = iR cx l F S (Q .normal) := rfl
def kcodeE (cx : Cx) (b : Code) (Q : Ex → Fr → AS → Prop) (F' : Fr) (S' : AS) : Prop := mX cx b F' S' Q
theorem kcodeE_app {b : Code} {F' : Fr} {S' : AS} : kcodeE cx b Q F' S' = mX cx b F' S' Q := rfl
theorem wpE_seq {a b : Code} : mX cx (.seq a b) F S Q = mX cx a F S (ju (kcodeE cx b Q) Q) := rfl
theorem qC {x : Operand} {a b : Code} : mX cx (.cond x a b) F S Q = iC (eval F x) (mX cx a F S Q) (mX cx b F S Q) := rfl
theorem wpE_block {id : Nat} {b : Code} : mX cx (.block id b) F S Q = mX cx b F S (kh id Q) := rfl
theorem wpE_loop {b : Code} : mX cx (.loop b) F S Q = zy cx b F S Q := rfl
theorem wpE_range {x : Operand} {ps : Array Tmp} {a b : Code} : mX cx (.rangeFunc x ps a b) F S Q = Bh cx x ps a b F S Q := rfl
end
attribute [simp] kontE_app opsE_nil opsE_cons Ec stepM_run Ea wpE_drawn runE_val Ew Eu wpE_skip wpE_ret wpE_exit DZ kcodeE_app wpE_seq qC wpE_block wpE_loop wpE_range
end Go.Am
