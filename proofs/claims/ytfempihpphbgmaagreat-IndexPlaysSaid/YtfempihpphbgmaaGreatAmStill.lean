/-
  The abstract machine: a region that draws its order and leaves the memory as it is.
-/
import Derived.Test.YtfempihpphbgmaaGreatAmPrim
import Derived.Test.YtfempihpphbgmaaGreatAmPlan
import Derived.Test.YtfempihpphbgmaaGreatAmCongr
import Derived.Test.YtfempihpphbgmaaGreatAmDraws
namespace Go.Am
set_option linter.unusedSimpArgs false
open Go
def od : AV → Bool
 | .bool _ => true | .int .. => true | .str _ => true | .dT => true | .ptr .. => true | .aH => true | .slice .. => true | .gm => true | .map _ => true | .jE => true | .bN => true
 | _ => false
def jm : List AV → Bool
 | [] => true
 | x :: l => od x && jm l
def oW : AV → Bool
 | .agg l => jm l
 | .tuple l => jm l
 | .iface _ v => od v
 | v => od v
theorem v8 : ∀ s : List Nat, fX s s = true
 | [] => rfl
 | x :: l => by
  show cond (Nat.beq x x) (fX l l) false = true;rw [aK, v8 l]; simp
theorem lE (k : IntKind) : iO k k = true := by rw [cC]; simp
theorem eqI_self (n : Int) : C2 n n = true := by rw [gC]; simp
theorem sZ (n : Nat) (v : AV) (h : od v = true) : cG (n + 1) v v = true := by
 cases v <;> simp only [od, Bool.false_eq_true] at h <;> try rfl
 ·rename_i b; cases b <;> rfl
 ·rename_i k m
  show (iO k k && C2 m m) = true;rw [lE, eqI_self]; rfl
 ·rename_i s; exact v8 s
 ·rename_i a b c d
  show (Nat.beq a a && Nat.beq b b && Nat.beq c c && Nat.beq d d) = true;simp [aK]
 ·rename_i a b c d e f g
  cases g with
  | none =>
   show (Nat.beq a a && Nat.beq b b && Nat.beq c c && Nat.beq d d && Nat.beq e e && Nat.beq f f) = true;simp [aK]
  | some g =>
   show (Nat.beq a a && Nat.beq b b && Nat.beq c c && Nat.beq d d && Nat.beq e e && Nat.beq f f && Nat.beq g g) = true;simp [aK]
 ·rename_i a
  show Nat.beq a a = true;simp [aK]
theorem ki (n : Nat) : ∀ l : List AV, jm l = true → pK (n + 1) l l = true
 | [], _ => rfl
 | x :: l, h => by
  simp only [jm, Bool.and_eq_true] at h;show cond (cG (n + 1) x x) (pK (n + 1) l l) false = true;rw [sZ n x h.1, ki n l h.2]; rfl
theorem vp (v : AV) (h : oW v = true) : cG 8 v v = true := by
 have b : od v = true → cG 8 v v = true := sZ 7 v
 cases v <;> simp only [oW] at h <;> (try exact b h)
 ·rename_i t v
  show (Nat.beq t t && cG 7 v v) = true;rw [sZ 6 v h]; simp [aK]
 ·exact ki 6 _ h
 ·exact ki 6 _ h
theorem okV_undef : oW .undef = true := rfl
noncomputable def rL (ops : List Oper) : List Row → Bool
 | [] => true
 | r :: l => !bV r.cls && cond (dX r.cls) (match r.o.dst with
  | some d => !mr d (gH ops r.o) && fZ (fun w => match w.o.dst with | some e => !Nat.beq e d && !mr e (gH ops r.o) | none => true) l
  | none => false) true && rL ops l
noncomputable def stillOk (cx : Cx) (n : Nat) (ops : List Oper) : Bool :=
 mh ops (settle (cV cx ops)) && rL ops (settle (cV cx ops)) && mA n (settle (cV cx ops))
def lY (cx : Cx) (ops : List Oper) : List Oper → Fr → AS → (Fr → Prop) → Prop
 | [], F, _, Q => Q F
 | o :: l, F, S, Q => dZ cx ops o F S fun v S' => S' = S ∧ oW v = true ∧ lY cx ops l (up F o.dst v) S Q
def skont (cx : Cx) (ops l : List Oper) (F : Fr) (d : Option Nat) (S : AS) (Q : Fr → Prop) (v : AV) (S' : AS) : Prop := S' = S ∧ oW v = true ∧ lY cx ops l (up F d v) S Q
theorem D5 {cx : Cx} {ops : List Oper} {F : Fr} {S : AS} {Q : Fr → Prop} : lY cx ops [] F S Q = Q F := rfl
theorem Bx {cx : Cx} {ops : List Oper} {o : Oper} {l : List Oper} {F : Fr} {S : AS} {Q : Fr → Prop} : lY cx ops (o :: l) F S Q = dZ cx ops o F S (skont cx ops l F o.dst S Q) := rfl
theorem skont_app {cx : Cx} {ops l : List Oper} {F : Fr} {d : Option Nat} {S : AS} {Q : Fr → Prop} {v : AV} : skont cx ops l F d S Q v S = (oW v = true ∧ lY cx ops l (up F d v) S Q) := by
 unfold skont; simp
theorem fD {r : Option AV} {S S' : AS} {n : Nat} {f : FuncId} {l : List AV} (h : val? r S n = .enter f l S') : False := by
 cases r <;> cases h
theorem aop_stays {cx : Cx} {F : Fr} {S S' : AS} {o : Oper} {f : FuncId} {l : List AV} (hc : fM cx o = .pure ∨ fM cx o = .read) (h : bq cx F S o = .enter f l S') : False := by
 obtain ⟨dst, op, ty, pos, after, guard⟩ := o
 cases op <;> simp only [fM, reduceCtorEq, or_self] at hc <;> simp only [bq] at h
 case move x => cases h
 case assign x => cases h
 case pick c a b => split at h <;> cases h
 case build t parts => exact fD h
 case load t x =>
  split at h
  ·repeat (split at h <;> try (cases h; done))
  ·split at h
   ·exact fD h
   ·cases h
  ·cases h
 case typeAssert x a b ok => exact fD h
 case nilCheck x => split at h <;> cases h
 case binOp op t x y yt => exact fD h
 case unOp op t x => exact fD h
 case convert s d x =>
  simp only [Bool.cond_eq_ite] at h
  repeat' split at h
  all_goals first | (cases h; done) | exact fD h
 case makeInterface t x => split at h <;> cases h
 case makeFunc fn a b => cases h
 case slice t x lo hi mx => exact fD h
 case fieldAddr t x f => repeat (split at h <;> try (cases h; done))
 case field t x f =>
  split at h
  ·split at h
   ·exact fD h
   ·cases h
  ·cases h
 case indexAddr t x i =>
  split at h
  ·split at h
   ·cases hc : (Nat.beq _ _ && Nat.blt _ _) with
    | false => rw [hc] at h; cases h
    | true => rw [hc] at h; cases h
   ·cases h
  ·split at h
   ·cases hc : Nat.blt _ _ with
    | false => rw [hc] at h; cases h
    | true => rw [hc] at h; cases h
   ·cases h
  ·split at h
   ·cases hc : Nat.blt _ _ with
    | false => rw [hc] at h; cases h
    | true => rw [hc] at h; cases h
   ·cases h
  ·cases h
 case index t x i =>
  split at h
  ·split at h <;> cases h
  ·split at h
   ·cases hc : Nat.blt _ _ with
    | false => rw [hc] at h; cases h
    | true => rw [hc] at h; exact fD h
   ·cases h
  ·cases h
 case lookup t x i ok => exact fD h
 case extract x i =>
  split at h
  ·exact fD h
  ·cases h
 case call c =>
  obtain ⟨callee, as, kM⟩ := c
  cases callee with
  | value f => simp at hc
  | invoke r m => simp at hc
  | builtin b =>
   have hb : b = .len ∨ b = .cap ∨ b = .min ∨ b = .max := by cases b <;> simp_all
   simp only [] at h;unfold aJ at h;rcases hb with rfl | rfl | rfl | rfl <;> clear hc <;> split at h <;> (try contradiction) <;> (try (cases h; done))
   ·split at h <;> first | (cases h) | (cases h; done)
   ·split at h <;> first | (cases h) | (cases h; done)
   ·exact fD h
   ·exact fD h
theorem wJ {cx : Cx} {F : Fr} {S : AS} {o : Oper} {K : AV → AS → Prop} (hc : fM cx o = .pure ∨ fM cx o = .read) (h : qG cx (bq cx F S o) K) : ∃ v S', bq cx F S o = .val v S' := by
 cases ha : bq cx F S o with
 | val v S' => exact ⟨v, S', rfl⟩
 | enter f l S' => exact (aop_stays hc ha).elim
 | err n => rw [ha] at h; exact h.elim
 | round f l S' => rw [ha] at h; exact h.elim
 | ei v S' => rw [ha] at h; exact h.elim
 | many l => rw [ha] at h; exact h.elim
theorem dW {cx : Cx} {ops : List Oper} : ∀ {l : List Row} {F : Fr} {S : AS} {ps : List dC} {sn : List AS} {id : Nat} {Q Q' : Fr → AS → List AS → Prop}, dk cx ops l F S ps sn id Q → (∀ F' S' Eg, Q F' S' Eg → Q' F' S' Eg) → dk cx ops l F S ps sn id Q'
 | [], _, _, _, _, _, _, _, h, k => k _ _ _ h
 | r :: l, F, S, ps, sn, id, Q, Q', h, k => by
  cases hc : r.cls with
  | fresh =>
   rw [dk, hc] at h ⊢;simp only [] at h ⊢
   cases hw : bg ops F r.o.guard with
   | none => rw [hw] at h; exact h
   | some b =>
    rw [hw] at h;refine ⟨fun hb => ?_, fun hb => dW (h.2 hb) k⟩
    obtain ⟨v, x, h1, h2⟩ := h.1 hb;exact ⟨v, x, h1, dW h2 k⟩
  | xH =>
   rw [dk, hc] at h ⊢;simp only [] at h ⊢;exact lZ h fun _ _ h' => dW h' k
  | pure =>
   rw [dk, hc] at h ⊢;simp only [] at h ⊢
   cases hw : bg ops F r.o.guard with
   | none => rw [hw] at h; exact h
   | some b =>
    rw [hw] at h;refine ⟨fun hb => ?_, fun hb => dW (h.2 hb) k⟩
    obtain ⟨v, x, h1, h2⟩ := h.1 hb;exact ⟨v, x, h1, dW h2 k⟩
  | read =>
   rw [dk, hc] at h ⊢;simp only [] at h ⊢
   cases hw : bg ops F r.o.guard with
   | none => rw [hw] at h; exact h
   | some b =>
    rw [hw] at h;refine ⟨fun hb => ?_, fun hb => dW (h.2 hb) k⟩
    obtain ⟨v, x, h1, h2⟩ := h.1 hb;exact ⟨v, x, h1, dW h2 k⟩
theorem qR (n : Nat) : ∀ l : List Nat, mr n l = true ↔ n ∈ l
 | [] => by show (false = true) ↔ _; simp
 | m :: l => by
  show cond (Nat.beq n m) true (mr n l) = true ↔ _;rw [aK];have ih := qR n l
  by_cases h : n = m
  ·simp [h]
  ·simp [h, ih]
theorem lR {α : Type} (p : α → Bool) : ∀ l : List α, fZ p l = true ↔ ∀ x, x ∈ l → p x = true
 | [] => by show (true = true) ↔ _; simp
 | x :: l => by
  show cond (p x) (fZ p l) false = true ↔ _;have ih := lR p l
  cases h : p x <;> simp [h, ih]
theorem oK {F : Fr} {d : Option Nat} {t : Nat} {v : AV} (h : d ≠ some t) : (up F d v).t.get t = F.t.get t := by
 cases d with
 | none => rfl
 | some d => exact ae _ _ (fun e => h (by rw [e]))
theorem tE {F : Fr} {d : Nat} {v : AV} : (up F (some d) v).t.get d = some v := aa _ _ _
structure Still (cx : Cx) (ops : List Oper) (l : List Row) (F : Fr) (S : AS) (sn : List AS) (F' : Fr) (S' : AS) (Eg : List AS) : Prop where
 mem : S' = S
 sns : ∀ T, T ∈ Eg → T = S ∨ T ∈ sn
 n : F'.n = F.n
 bm : ∀ t, (∀ r, r ∈ l → r.o.dst ≠ some t) → F'.t.get t = F.t.get t
 read : ∀ q, q ∈ l → dX q.cls = true → ∃ d v, q.o.dst = some d ∧ F'.t.get d = some v ∧ oW v = true ∧ eG cx ops F' S q.o = some v
theorem uX {cx : Cx} {ops : List Oper} : ∀ {l : List Row} {F : Fr} {S : AS} {sn : List AS} {id : Nat} {Q : Fr → Prop}, rL ops l = true → (∀ r, r ∈ l → (r.cls = .pure ∨ r.cls = .read) → fM cx r.o = r.cls) →
  lY cx ops (l.map (·.o)) F S Q → dk cx ops l F S [] sn id fun F' S' Eg => Still cx ops l F S sn F' S' Eg ∧ Q F'
 | [], F, S, sn, id, Q, _, _, h => ⟨⟨rfl, fun T hT => by
   rcases List.mem_cons.1 hT with e | e
   ·exact .inl e
   ·exact .inr e, rfl, fun _ _ => rfl, fun q hq => by cases hq⟩, h⟩
 | r :: l, F, S, sn, id, Q, hb, hc, h => by
  simp only [rL, Bool.and_eq_true] at hb;obtain ⟨⟨hf, hr⟩, hl⟩ := hb;have h' : dZ cx ops r.o F S fun v S' => S' = S ∧ oW v = true ∧ lY cx ops (l.map (·.o)) (up F r.o.dst v) S Q := h
  have pY : ∀ r', r' ∈ l → (r'.cls = .pure ∨ r'.cls = .read) → fM cx r'.o = r'.cls := fun r' iq => hc r' (List.mem_cons_of_mem _ iq)
  have rest : ∀ (v : AV) (sn1 : List AS), (∀ T, T ∈ sn1 → T = S ∨ T ∈ sn) → oW v = true → lY cx ops (l.map (·.o)) (up F r.o.dst v) S Q → (dX r.cls = true → eG cx ops F S r.o = some v) →
    dk cx ops l (up F r.o.dst v) S [] sn1 id fun F' S' Eg => Still cx ops (r :: l) F S sn F' S' Eg ∧ Q F' := by
   intro v sn1 hs hv hk ho;refine dW (uX (sn := sn1) hl pY hk) ?_
   rintro F' S' Eg ⟨⟨k1, k2, k3, k4, k5⟩, hq⟩
   refine ⟨⟨k1, fun T hT => ?_, k3.trans (mZ _ _ _), fun t ht => ?_, fun q hq qv => ?_⟩, hq⟩
   ·rcases k2 T hT with e | e
    ·exact .inl e
    ·exact hs T e
   ·rw [k4 t fun r' iq => ht r' (List.mem_cons_of_mem _ iq), oK (ht r (List.mem_cons_self ..))]
   ·rcases List.mem_cons.1 hq with rfl | hq
    ·rw [qv] at hr
     simp only [cond_true] at hr
     cases hd : q.o.dst with
     | none => rw [hd] at hr; cases hr
     | some d =>
      rw [hd] at hr;simp only [Bool.and_eq_true, Bool.not_eq_true'] at hr;obtain ⟨h1, h2⟩ := hr;rw [lR] at h2;have dj : ∀ t, t ∈ gH ops q.o → mr t (gH ops q.o) = true := fun t ht => (qR _ _).2 ht
      have nM : ∀ t, (t = d ∨ t ∈ gH ops q.o) → ∀ r', r' ∈ l → r'.o.dst ≠ some t := by
       intro t ht r' iq e;have := h2 r' iq;rw [e] at this;simp only [aK, Bool.and_eq_true, Bool.not_eq_true', decide_eq_false_iff_not] at this;rcases ht with rfl | ht
       ·exact this.1 rfl
       ·rw [dj t ht] at this; cases this.2
      refine ⟨d, v, rfl, ?_, hv, ?_⟩
      ·rw [k4 d (nM d (.inl rfl)), hd, tE]
      ·rw [← ho qv]
       refine gl fun t ht => ?_
       rw [k4 t (nM t (.inr ht)), oK];rw [hd];intro e
       cases e
       rw [dj _ ht] at h1
       cases h1
    ·exact k5 q hq qv
  cases qZ : r.cls with
  | fresh => rw [qZ] at hf; cases hf
  | xH =>
   rw [dk, qZ];simp only [];refine lZ (show dZ cx ops r.o F S _ from h') ?_
   rintro v S' ⟨rfl, hv, hk⟩
   exact rest v _ (fun T hT => by
    rcases List.mem_cons.1 hT with e | e
    ·exact .inl e
    ·exact .inr e) hv hk (fun e => by rw [qZ] at e; cases e)
  | pure =>
   rw [dk, qZ];simp only [];unfold dZ at h'
   cases hw : bg ops F r.o.guard with
   | none => rw [hw] at h'; exact h'
   | some b =>
    rw [hw] at h';refine ⟨fun hb => ?_, fun hb => ?_⟩
    ·have h1 := h'.1 hb
     obtain ⟨v, S', ha⟩ : ∃ v S', bq cx F S r.o = .val v S' := wJ (.inl (hc r (List.mem_cons_self ..) (.inl qZ) |>.trans qZ)) h1;rw [ha] at h1;exact ⟨v, S', ha, rest v sn (fun T hT => .inr hT) h1.2.1 h1.2.2 (fun e => by rw [qZ] at e; cases e)⟩
    ·have h1 := h'.2 hb
     exact rest _ sn (fun T hT => .inr hT) h1.2.1 h1.2.2 (fun e => by rw [qZ] at e; cases e)
  | read =>
   rw [dk, qZ];simp only [];unfold dZ at h'
   cases hw : bg ops F r.o.guard with
   | none => rw [hw] at h'; exact h'
   | some b =>
    rw [hw] at h';refine ⟨fun hb => ?_, fun hb => ?_⟩
    ·have h1 := h'.1 hb
     obtain ⟨v, S', ha⟩ : ∃ v S', bq cx F S r.o = .val v S' := wJ (.inr (hc r (List.mem_cons_self ..) (.inr qZ) |>.trans qZ)) h1;rw [ha] at h1;refine ⟨v, S', ha, rest v sn (fun T hT => .inr hT) h1.2.1 h1.2.2 fun _ => ?_⟩
     rw [mo, hw, hb];simp only [ha]
    ·have h1 := h'.2 hb
     refine rest _ sn (fun T hT => .inr hT) h1.2.1 h1.2.2 fun _ => ?_
     rw [mo, hw, hb]
theorem jQ {cx : Cx} {ops : List Oper} {F : Fr} {S : AS} {Q : Fr → AS → Prop} {n : Nat} (hk : stillOk cx n ops = true) (hn : F.n = n) (h : lY cx ops ops F S fun F' => Q F' S) : iR cx ops F S Q := by
 unfold stillOk at hk;simp only [Bool.and_eq_true] at hk;obtain ⟨⟨h1, h2⟩, h3⟩ := hk;subst hn;have hp := rS cx ops.toArray;simp only [List.toList_toArray] at hp;obtain ⟨pl, pc⟩ := hp;have hmap : (settle (cV cx ops)).map (·.o) = ops := by
  apply List.ext_getElem?
  intro i;rw [List.getElem?_map]
  cases hi : (settle (cV cx ops))[i]? with
  | none =>
   have hlen := pl.len;simp only [List.size_toArray] at hlen;rw [List.getElem?_eq_none_iff] at hi;simp only [Option.map_none];exact (List.getElem?_eq_none_iff.2 (by omega)).symm
  | some r =>
   have := (pl.row i r hi).2;simp only [List.getElem?_toArray] at this;simp [this]
 have hnf : ∀ l : List Row, rL ops l = true → nO l = 0 := by
  intro l
  induction l with
  | nil => intro _; rfl
  | cons r l ih =>
   intro hb;simp only [rL, Bool.and_eq_true] at hb;show cond (bV r.cls) (Nat.succ (nO l)) (nO l) = 0;have hf : bV r.cls = false := by simpa using hb.1.1
   rw [hf, ih hb.2]; rfl
 refine ⟨?_⟩;unfold rk Cc;rw [h1];simp only [cond_true];rw [hnf _ h2];refine dW (uX (S := S) (sn := []) h2 (fun r hr hc => ?_) (by rw [hmap]; exact h)) ?_
 ·obtain ⟨i, hi⟩ := List.getElem?_of_mem hr
  exact pc i r hi hc
 ·rintro F' S' sn ⟨hs, hq⟩
  obtain ⟨rfl, k2, k3, _, k5⟩ := hs;refine ⟨fun q hqm qv => ?_, hq⟩
  obtain ⟨d, v, e1, e2, e3, e4⟩ := k5 q hqm qv;have hd : d < F'.n := by
   rw [k3];have := List.all_eq_true.1 h3 q hqm;unfold AG at this;rw [e1] at this;simpa [fI] using this
  unfold fU;have gS : ∀ T, T ∈ takeN (Nat.succ (Nat.sub (fa (fun e => !bit e.eE q.i) (gv (fun e => bA e.cls) (settle (cV cx ops)))) (fa (fun e => bit q.eE e.i) (gv (fun e => bA e.cls) (settle (cV cx ops)))))) (kc (fa (fun e => bit q.eE e.i) (gv (fun e => bA e.cls) (settle (cV cx ops)))) (zS sn)) → T = S' := by
   intro T hT;rw [bX, ck] at hT;have := List.mem_of_mem_drop (List.mem_of_mem_take hT);rw [zR, List.mem_reverse] at this;rcases k2 T this with e | e
   ·exact e
   ·cases e
  simp only []
  split
  ·rfl
  ·simp only [e1, fI, hd, decide_true, cond_true, e2]
   rw [lR];intro T hT;rw [gS T hT, e4];exact vp v e3
end Go.Am
