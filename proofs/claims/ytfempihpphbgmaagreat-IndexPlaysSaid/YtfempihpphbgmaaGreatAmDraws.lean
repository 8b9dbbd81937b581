/-
  The abstract machine: a region that draws its order, whole.
-/
import Derived.Test.YtfempihpphbgmaaGreatAmDrawn
namespace Go.Am
open Go
variable {Λ : LB}
theorem gl {cx : Cx} {ops : List Oper} {F F' : Fr} {S : AS} {o : Oper} (h : ∀ t, t ∈ gH ops o → F.t.get t = F'.t.get t) : eG cx ops F S o = eG cx ops F' S o := by
 unfold eG;rw [jB h, zu (rN h)]
theorem one_congr {cx : Cx} {K : dH} {ops : List Oper} {F F' : Fr} {S : AS} {o : Oper} (h : ∀ t, t ∈ gH ops o → F.t.get t = F'.t.get t) : one cx K ops o F S = one cx K ops o F' S := by
 unfold one;rw [jB h, zu (rN h)]
theorem oneV_one {cx : Cx} {K : dH} {ops : List Oper} {F : Fr} {S : AS} {o : Oper} {v : AV} (hc : fM cx o = .pure ∨ fM cx o = .read) (h : eG cx ops F S o = some v) : one cx K ops o F S = .ok (false, v, S) [] := by
 unfold eG at h;unfold one
 cases hw : wanted ops F o with
 | none => rw [hw] at h; cases h
 | some b =>
  rw [hw] at h
  cases b with
  | false => cases h; rfl
  | true =>
   simp only [] at h ⊢
   cases ha : bq cx F S o with
   | err n => rw [ha] at h; cases h
   | round f as S' => rw [ha] at h; cases h
   | ei u S' => rw [ha] at h; cases h
   | many l => rw [ha] at h; cases h
   | enter f as S' => rw [ha] at h; cases h
   | val u S' =>
    rw [ha] at h
    cases h
    rw [Dx hc ha]
theorem oneV_pure {cx : Cx} {ops : List Oper} {F : Fr} {S S2 : AS} {o : Oper} {v : AV} (hc : fM cx o = .pure) (h : eG cx ops F S o = some v) : eG cx ops F S2 o = some v := by
 unfold eG at h ⊢
 cases hw : wanted ops F o with
 | none => rw [hw] at h; cases h
 | some b =>
  rw [hw] at h
  cases b with
  | false => exact h
  | true =>
   simp only [] at h ⊢
   cases ha : bq cx F S o with
   | err n => rw [ha] at h; cases h
   | round f as S' => rw [ha] at h; cases h
   | ei u S' => rw [ha] at h; cases h
   | many l => rw [ha] at h; cases h
   | enter f as S' => rw [ha] at h; cases h
   | val u S' =>
    rw [ha] at h
    cases h
    have := Dx (.inl hc) ha;subst this;rw [aop_pure (S2 := S2) hc ha]
theorem run_ok {cx : Cx} {K : dH} {ops : Array Oper} {rows : List Row} {c : Nat → DK} (hp : Plan ops rows) (hk : mh ops.toList rows = true)
  (hs : ∀ (i : Nat) (r : Row), rows[i]? = some r → tS cx K ops.toList r (c i) (c (i + 1))) : nb cx K ops.toList rows c := by
 unfold mh at hk;simp only [Bool.and_eq_true, jI, oO, List.all_eq_true] at hk;obtain ⟨⟨h1, h2⟩, h3⟩ := hk;have num : ∀ (i : Nat) (r : Row), rows[i]? = some r → r.i = i := fun i r h => (hp.row i r h).1
 have lt : ∀ (i : Nat) (r : Row), rows[i]? = some r → r.eE < 2 ^ i := fun i r h => by
  have h' := h1 r (List.mem_of_getElem? h);rw [num i r h] at h';simpa using h'
 refine ⟨hs, num, lt, fun i j r q hr hq he he' fW => ?_, fun i j r q d hr hq hd mv => ?_, fun i j r q d hr hq hd mv => ?_⟩
 ·have := h2 r (List.mem_filter.2 ⟨List.mem_of_getElem? hr, he⟩) q (List.mem_filter.2 ⟨List.mem_of_getElem? hq, he'⟩)
  unfold ordered at this;rw [num i r hr, num j q hq] at this;simp only [Bool.or_eq_true, aK, decide_eq_true_eq] at this;rcases this with (h | h) | h
  ·omega
  ·have := qg (lt i r hr) h; omega
  ·exact h
 ·have := h3 r (List.mem_of_getElem? hr)
  rw [hd] at this;simp only [List.all_eq_true, Bool.and_eq_true] at this;have := (this q (List.mem_of_getElem? hq)).1;rw [uz] at this;have hc : (gH ops.toList q.o).contains d = true := by simpa using mv
  rw [hc, num i r hr, num j q hq] at this;simpa using this
 ·have := h3 r (List.mem_of_getElem? hr)
  rw [hd] at this;simp only [List.all_eq_true, Bool.and_eq_true] at this;have := (this q (List.mem_of_getElem? hq)).2;rw [mv, num i r hr, num j q hq] at this;simp only [aK, Bool.or_eq_true, decide_eq_true_eq] at this;rcases this with h | h
  ·exact h.symm
  ·simp at h
theorem cnt_le {rows : List Row} {p : Row → Bool} {m : Nat} (h : ∀ (e : Nat) (r : Row), rows[e]? = some r → bA r.cls = true → p r = true → jG rows e < m) :
  ∀ k, (rows.take k).countP (fun r => p r && bA r.cls) ≤ m ∧ (rows.take k).countP (fun r => p r && bA r.cls) ≤ jG rows k := by
 intro k
 induction k with
 | zero => simp
 | succ k ih =>
  by_cases hk : k < rows.length
  ·obtain ⟨r, hr⟩ := hY hk
   have h1 := h k r hr;rw [j6 hr, List.take_add_one, hr, List.countP_append]
   cases he : bA r.cls <;> cases hp : p r
   ·simp only [Option.toList, List.countP_cons, List.countP_nil, he, hp]; simp; omega
   ·simp only [Option.toList, List.countP_cons, List.countP_nil, he, hp]; simp; omega
   ·simp only [Option.toList, List.countP_cons, List.countP_nil, he, hp]; simp; omega
   ·have := h1 he hp
    simp only [Option.toList, List.countP_cons, List.countP_nil, he, hp]; simp; omega
  ·have e1 : jG rows (k + 1) = jG rows k := by
    unfold jG; rw [List.take_of_length_le (by omega), List.take_of_length_le (by omega)]
   have e2 : rows.take (k + 1) = rows.take k := by rw [List.take_of_length_le (by omega), List.take_of_length_le (by omega)]
   rw [e1, e2]; exact ih
theorem cnt_ge {rows : List Row} {p : Row → Bool} {m : Nat} (h : ∀ (e : Nat) (r : Row), rows[e]? = some r → bA r.cls = true → jG rows e < m → p r = true) :
  ∀ k, m ≤ (rows.take k).countP (fun r => p r && bA r.cls) ∨ jG rows k ≤ (rows.take k).countP (fun r => p r && bA r.cls) := by
 intro k
 induction k with
 | zero => simp [jG]
 | succ k ih =>
  by_cases hk : k < rows.length
  ·obtain ⟨r, hr⟩ := hY hk
   have h1 := h k r hr;rw [j6 hr, List.take_add_one, hr, List.countP_append]
   cases he : bA r.cls <;> cases hp : p r
   ·simp only [Option.toList, List.countP_cons, List.countP_nil, he, hp]; simp; omega
   ·simp only [Option.toList, List.countP_cons, List.countP_nil, he, hp]; simp; omega
   ·have h2 : ¬ jG rows k < m := fun h2 => by rw [h1 he h2] at hp; cases hp
    simp only [Option.toList, List.countP_cons, List.countP_nil, he, hp]; simp; omega
   ·simp only [Option.toList, List.countP_cons, List.countP_nil, he, hp]; simp; omega
  ·have e1 : jG rows (k + 1) = jG rows k := by
    unfold jG; rw [List.take_of_length_le (by omega), List.take_of_length_le (by omega)]
   have e2 : rows.take (k + 1) = rows.take k := by rw [List.take_of_length_le (by omega), List.take_of_length_le (by omega)]
   rw [e1, e2]; exact ih
section
variable {cx : Cx} {K : dH} {ops : List Oper} {rows : List Row} {c : Nat → DK}
theorem nb.window (h : nb cx K ops rows c) (hs0 : (c 0).cd = []) {i : Nat} {r : Row} (hr : rows[i]? = some r) {v : AV} (hv : eG cx ops (c i).F (c i).S r.o = some v) (hF : (c (i + 1)).F = bj (c i).F r.o.dst v)
  (hw : fU cx ops rows (c rows.length).F (fN rows c) r = true) {L : Nat → Prop} {m : Nat} {Fs : Fr} (ha : zA rows c L Fs) {S : AS} (hS : (fN rows c)[m]? = some S)
  (hlv : ∀ (i : Nat) (r : Row), rows[i]? = some r → bA r.cls = true → (L i ↔ jG rows i < m)) (hdown : ∀ (i : Nat) (r : Row) (j : Nat), rows[i]? = some r → L i → bit r.eE j = true → L j)
  (hn : ¬ L i) (hb : ∀ j, bit r.eE j = true → L j) (yT : dX r.cls = true) : eG cx ops Fs S r.o = some v := by
 have hi := nr hr;have qW : m < (fN rows c).length := by
  rcases Nat.lt_or_ge m (fN rows c).length with h1 | h1
  ·exact h1
  ·rw [List.getElem?_eq_none h1] at hS; cases hS
 have hmM : m ≤ jG rows rows.length := by rw [h.BE hs0] at qW; omega
 have tk : rows.take rows.length = rows := List.take_length;have lo1 := (cnt_le (rows := rows) (p := fun e => bit r.eE e.i) (m := m) (fun e q hq he hp => (hlv e q hq he).1 (hb e (by rw [← h.num e q hq]; exact hp))) rows.length).1
 have hi1 := cnt_ge (rows := rows) (p := fun e => !bit e.eE r.i) (m := m) (fun e q hq he hp => by
  cases hbq : bit q.eE r.i with
  | false => rfl
  | true => rw [h.num i r hr] at hbq; exact absurd (hdown e q i hq ((hlv e q hq he).2 hp) hbq) hn) rows.length
 have lo2 := (cnt_le (rows := rows) (p := fun e => bit r.eE e.i) (m := jG rows i) (fun e q hq he hp => (vH hq he).1 (by
  rw [h.num e q hq] at hp; exact qg (h.lt i r hr) hp)) rows.length).1
 have hi2 := cnt_ge (rows := rows) (p := fun e => !bit e.eE r.i) (m := jG rows i) (fun e q hq he hp => by
  cases hbq : bit q.eE r.i with
  | false => rfl
  | true =>
   rw [h.num i r hr] at hbq;have h1 := qg (h.lt e q hq) hbq;have h2 := (vH (i := i) hq he).2 hp;omega) rows.length
 have hmi : jG rows i ≤ jG rows rows.length := vG (Nat.le_of_lt hi);rw [tk] at lo1 hi1 lo2 hi2;unfold fU at hw;simp only [zh, oO, List.countP_filter, bX, ck] at hw;generalize List.countP (fun e : Row => bit r.eE e.i && bA e.cls) rows = lo at *
 generalize List.countP (fun e : Row => !bit e.eE r.i && bA e.cls) rows = hh at *
 have at1 : ∀ k S', lo ≤ k → k ≤ hh → (fN rows c)[k]? = some S' → (((fN rows c).drop lo).take (Nat.succ (Nat.sub hh lo)))[k - lo]? = some S' := by
  intro k S' h1 h2 h3;rw [List.getElem?_take, if_pos (by show k - lo < hh - lo + 1; omega), List.getElem?_drop, Nat.add_sub_cancel' h1]; exact h3
 have m1 := at1 m S lo1 (by omega) hS
 have m2 := at1 (jG rows i) (c i).S lo2 (by omega) (h.snap hs0 (Nat.le_of_lt hi))
 generalize ((fN rows c).drop lo).take (Nat.succ (Nat.sub hh lo)) = may at *;have one' : may.length = 1 → eG cx ops Fs S r.o = some v := by
  intro hl;have e : ∀ (k : Nat) (S' : AS), may[k]? = some S' → k = 0 := fun k S' hk => by
   rcases Nat.lt_or_ge k may.length with h1 | h1
   ·omega
   ·rw [List.getElem?_eq_none h1] at hk; cases hk
  rw [e _ _ m1] at m1;rw [e _ _ m2, m1] at m2
  cases m2
  rw [gl (fun t ht => h.now ha hr hb (.inl yT) ht)]; exact hv
 have many : (match r.o.dst with
  | some d => cond (Nat.blt d (c rows.length).F.n) (match (c rows.length).F.t.get d with
   | some v => fZ (fun S => match eG cx ops (c rows.length).F S r.o with
    | some u => cG 8 v u
    | none => false) may
   | none => false) false
  | none => false) = true → eG cx ops Fs S r.o = some v := by
  intro hw
  cases hd : r.o.dst with
  | none => rw [hd] at hw; cases hw
  | some d =>
   rw [hd] at hw;simp only [] at hw
   cases aL : Nat.blt d (c rows.length).F.n with
   | false => rw [aL] at hw; cases hw
   | true =>
    rw [aL] at hw;simp only [cond_true] at hw;have qY : (c rows.length).F.t.get d = some v := by
     have h1 : (c rows.length).F.t.get d = (c (i + 1)).F.t.get d := h.bm _ hi (Nat.le_refl _) fun k q hk _ hq mv => by
      have := h.single i k r q d hr hq hd mv; omega
     rw [h1, hF, hd, rR, if_pos];rw [h.n i (Nat.le_of_lt hi), ← h.n rows.length (Nat.le_refl _)];simpa using aL
    rw [qY] at hw;simp only [jI, List.all_eq_true] at hw;have := hw S (List.mem_of_getElem? m1);rw [gl (F' := Fs) (fun t ht => by
     rw [h.now h.all hr (fun _ _ => trivial) (.inl yT) ht, h.now ha hr hb (.inl yT) ht])] at this
    cases hu : eG cx ops Fs S r.o with
    | none => rw [hu] at this; cases this
    | some u => rw [hu] at this; rw [kY 8 v u this]
 cases hmay : may with
 | nil => rw [hmay] at m1; simp at m1
 | cons x xs =>
  cases xs with
  | nil => exact one' (by rw [hmay]; rfl)
  | cons y ys =>
   rw [hmay] at hw;exact many (by rw [hmay]; exact hw)
end
theorem cnt_lt {α : Type} {p p' : α → Bool} : ∀ (l : List α) (x : α), (∀ y, p' y = true → p y = true) → x ∈ l → p x = true → p' x = false → l.countP p' < l.countP p := by
 intro l
 induction l with
 | nil => intro x _ hx; cases hx
 | cons z l ih =>
  intro x h hx h1 h2;have le : l.countP p' ≤ l.countP p := List.countP_mono_left fun y _ => h y
  rw [List.countP_cons, List.countP_cons]
  cases hx with
  | head => rw [h1, h2]; simp; omega
  | tail _ hx =>
   have := ih x h hx h1 h2;have hz := h z
   cases e1 : p' z <;> cases e2 : p z <;> simp <;> first | omega | (rw [e1, e2] at hz; simp at hz)
theorem wg {P : Program} {cx : Cx} (av : cX Λ P cx) (hm : P.follows .mixedOrders = true) : DrawnOk Λ P cx := by
 intro ro K hK ops rid Q ρ F S w a hR hF m7;unfold cN at m7;obtain ⟨vP, qZ⟩ := rS cx ops;generalize settle (cV cx ops.toList) = rows at vP qZ m7
 cases hpk : mh ops.toList rows with
 | false => simp only [hpk, cond_false] at m7; exact m7.elim
 | true =>
 simp only [hpk, cond_true] at m7;obtain ⟨c, w9, hstep, qY⟩ := trace cx K ops.toList rows ⟨F, ⟨S.h, Nat.add S.next (fa (fun r => bV r.cls) rows)⟩, [], [], S.next⟩ _ (aq.all_bind m7)
 have h := run_ok vP hpk hstep;simp only [] at qY;have hs0 : (c 0).cd = [] := by rw [w9]
 have hp0 : (c 0).ps = [] := by rw [w9]
 have bY : (c 0).id = S.next := by rw [w9]
 have hrev : zS ((c rows.length).S :: (c rows.length).cd) = fN rows c := zR _;rw [hrev] at qY
 cases hwin : fZ (fun q => cond (dX q.cls) (fU cx ops.toList rows (c rows.length).F (fN rows c) q) true) rows with
 | false => rw [hwin] at qY; exact qY.elim
 | true =>
 rw [hwin] at qY;have hQ := qY.1;simp only [] at hQ;rw [jI, List.all_eq_true] at hwin;have hlen := vP.len;have main : ∀ (fuel : Nat) (bD : Array Bool) (m : Nat) (Fs : Fr) (ρ' : aF) (S' : AS) (w' : World) (a' : Act), bD.size = ops.size →
   Inv Λ cx ops.toList rows c ρ S w (fun j => bD.getD j false = true) m Fs ρ' S' w' a' → (List.range ops.size).countP (fun i => !bD.getD i false) ≤ fuel →
   wpAnyIn (GF ro) 0 P .any ops Q fuel bD a' w' := by
  have done : ∀ (bD : Array Bool) (m : Nat) (Fs : Fr) (ρ' : aF) (S' : AS) (w' : World) (a' : Act), bD.size = ops.size →
    Inv Λ cx ops.toList rows c ρ S w (fun j => bD.getD j false = true) m Fs ρ' S' w' a' → Region.ready .any ops bD = [] → Q .normal a' w' := by
   intro bD m Fs ρ' S' w' a' fi hv hready;have gS : ∀ i, i < rows.length → bD.getD i false = true := by
    intro i
    induction i using Nat.strongRecOn with
    | _ i ih =>
     intro hi
     cases hli : bD.getD i false with
     | true => rfl
     | false =>
      exfalso
      obtain ⟨r, hr⟩ := hY hi;have hio := (vP.row i r hr).2;have : i ∈ Region.ready .any ops bD := by
       rw [mem_ready];refine ⟨?_, r.o, hio, fun e he hb => ?_⟩
       ·have : i < bD.size := by omega
        simpa [Array.getD, this] using hli
       ·have hbit := vP.edge i r e hr (by simpa using he) hb
        have aL := qg (h.lt i r hr) hbit;exact ih e.on aL (by omega)
      rw [hready] at this
      cases this
   have hmM : m = jG rows rows.length := by
    have h1 : m < (fN rows c).length := by
     rcases Nat.lt_or_ge m (fN rows c).length with h1 | h1
     ·exact h1
     ·have := hv.st; rw [List.getElem?_eq_none h1] at this; cases this
    rw [h.BE hs0] at h1;rcases Cv (rows := rows) rows.length with h2 | ⟨e, q, h2, h3, h4, h5⟩
    ·omega
    ·have := (hv.lv e q h3 h4).1 (gS e h2); omega
   have hS : S' = (c rows.length).S := by
    have h1 := hv.st;rw [hmM, h.snap hs0 (Nat.le_refl _)] at h1;exact (Option.some.inj h1).symm
   obtain ⟨c1, c2, _⟩ := hv.bf h hp0 bY (Nat.le_refl _) hmM.symm (fun _ => true) (fun j q _ _ hl => gS j (hl.next h).2.1)
   rw [hS] at c1 c2;refine hQ ρ' a' w' c1 ⟨fun t => ?_, ?_, by rw [h.ds _ (Nat.le_refl _), ← hv.ag.ds]; exact hv.F.defers⟩ c2
   ·have e : (c rows.length).F.t.get t = Fs.t.get t := by
     by_cases hw : ∃ i, Bg rows t i
     ·obtain ⟨i, hi⟩ := hw
      obtain ⟨q, hq, _⟩ := id hi;exact (hv.ag.yes t i hi (gS i (nr hq))).symm
     ·rw [hv.ag.no t fun i hi _ => hw ⟨i, hi⟩]
      exact h.all.no t fun i hi _ => hw ⟨i, hi⟩
    rw [e]; exact hv.F.slot t
   ·rw [hv.F.size, hv.ag.n, h.n _ (Nat.le_refl _)]
  intro fuel
  induction fuel with
  | zero =>
   intro bD m Fs ρ' S' w' a' fi hv hfuel;have hr : Region.ready .any ops bD = [] := by
    cases yT : Region.ready .any ops bD with
    | nil => rfl
    | cons i l =>
     exfalso
     have hi : i ∈ Region.ready .any ops bD := by rw [yT]; simp
     obtain ⟨h1, o, ho, _⟩ := mem_ready.1 hi;have aL : i < ops.size := (Array.getElem?_eq_some_iff.1 ho).1;have h2 : bD.getD i false = false := by
      have : i < bD.size := by omega
      simpa [Array.getD, this] using h1
     have : 0 < (List.range ops.size).countP (fun i => !bD.getD i false) := List.countP_pos_iff.2 ⟨i, by simpa using aL, by rw [h2]; rfl⟩
     omega
   exact ⟨hr, done bD m Fs ρ' S' w' a' fi hv hr⟩
  | succ fuel ih =>
   intro bD m Fs ρ' S' w' a' fi hv hfuel;refine ⟨fun hr => done bD m Fs ρ' S' w' a' fi hv hr, fun i hi => ?_⟩
   obtain ⟨h1, o, ho, hedges⟩ := mem_ready.1 hi;have aL : i < ops.size := (Array.getElem?_eq_some_iff.1 ho).1;have hli : bD.getD i false = false := by
    have : i < bD.size := by omega
    simpa [Array.getD, this] using h1
   have hn : ¬ bD.getD i false = true := by rw [hli]; simp
   obtain ⟨r, hr⟩ := hY (rows := rows) (i := i) (by omega)
   have hio := (vP.row i r hr).2;rw [ho] at hio;obtain rfl : o = r.o := Option.some.inj hio;have hb : ∀ j, bit r.eE j = true → bD.getD j false = true := by
    intro j hj;obtain ⟨e, he, xa, h2⟩ := vP.down i r j hr hj;have hL := hedges e (by simpa using he) xa
    rcases h2 with rfl | ⟨r', iq, rI⟩
    ·exact hL
    ·exact hv.down e.on r' j iq hL rI
   have hL' : ∀ j, ((bD.setIfInBounds i true).getD j false = true) ↔ (bD.getD j false = true) ∨ j = i := by
    intro j
    by_cases CJ : i = j
    ·subst CJ
     have : i < bD.size := by omega
     simp [this]
    ·rw [getD_set_ne false CJ]
     simp [Ne.symm CJ]
   have hcnt : (List.range ops.size).countP (fun j => !(bD.setIfInBounds i true).getD j false) ≤ fuel := by
    have := cnt_lt (p := fun j => !bD.getD j false) (p' := fun j => !(bD.setIfInBounds i true).getD j false) (List.range ops.size) i (fun y hy => by
     cases hy0 : bD.getD y false with
     | false => rfl
     | true => rw [(hL' y).2 (.inl hy0)] at hy; cases hy) (by simpa using aL) (by rw [hli]; rfl) (by rw [(hL' i).2 (.inr rfl)]; rfl)
    omega
   have hsz' : (bD.setIfInBounds i true).size = ops.size := by simpa using fi
   have El := fun t ht => h.now hv.ag hr hb (.inr fun k q hk hbk hLk => hn (hv.down k q i hk hLk hbk)) (t := t) ht
   have value : ∀ v, bA r.cls = false → (∀ q, ¬ Laid cx ops.toList rows c i q) → (c (i + 1)).F = bj (c i).F r.o.dst v → one cx K ops.toList r.o Fs S' = .ok (false, v, S') [] →
     wpOpIn (GF ro) 0 P ops Q i (wpAnyIn (GF ro) 0 P .any ops Q fuel (bD.setIfInBounds i true)) a' w' := by
    intro v he pW hFv jH;refine EN av hK hv.R hv.F ho ?_;rw [jH];refine ⟨fun ρ2 e w2 hx hR2 xy => ?_, fun y hy => by cases hy⟩
    obtain ⟨x, rfl, xu⟩ := hx.val;exact ih _ m _ ρ2 S' w2 _ hsz' (hv.value h hr hn hb hL' he pW hFv xu hR2 xy) hcnt
   rcases hstep i r hr with ⟨hc, ⟨hw, v, x, hf, e⟩ | ⟨hw, e⟩⟩ | ⟨hc, v, S2, jH, e⟩ | ⟨hc, v, jH, e⟩
   ·-- a block is laid
    have vQ : Laid cx ops.toList rows c i ⟨r.i, (c i).id, x⟩ := ⟨⟨r, v, hr, hc, hw, hf⟩, h.num i r hr, rfl⟩;have hFv : (c (i + 1)).F = bj (c i).F r.o.dst v := by rw [e]
    have At : wanted ops.toList Fs r.o = some true := by rw [jB El]; exact hw
    have xz : aI cx Fs (c i).id r.o.op = some (v, x) := by rw [iy (rN El)]; exact hf
    obtain ⟨s, hs1, y, o', w2, hs2, hg, pb, hval⟩ := yY (P := P) av hv.F xz w';unfold wpOpIn;simp only [ho];rw [kT hv.F At];simp only [if_true];refine ⟨fun f _ => zz ro f, ?_⟩
    have hnd : ∀ c, r.o.op ≠ .defer c := by
     intro c e;rw [e] at xz
     cases xz
    rw [Oper.semAt_eq _ _ _ hnd];have hrun2 : (execOp a'.eval r.o).run P w' = .ok (.value y) w2 := by
     rw [hs1]; simp only [Sem.run_bind, hs2, Result.andThen_ok, Sem.run_pure]
    rw [hrun2];show wpAnyIn (GF ro) 0 P .any ops Q fuel (bD.setIfInBounds i true) (a'.put r.o.dst y) w2;obtain ⟨pl, lH, hplb⟩ : ∃ pl : Pl, zx pl.b pl x o' ∧ pl.b = w'.heap.size := by
     cases x with
     | row cells low top frz ty =>
      obtain ⟨rfl, rfl, rfl, C, rfl, r2, r3⟩ := pb;exact ⟨⟨w'.heap.size, 0, cells.length, C.size, by omega⟩, ⟨rfl, rfl, rfl, rfl⟩, rfl⟩
     | map es clock =>
      obtain ⟨ES, rfl, r2⟩ := pb;exact ⟨⟨w'.heap.size, 0, 0, 0, by omega⟩, rfl, rfl⟩
     | dS y => exact ⟨⟨w'.heap.size, 0, 0, 0, by omega⟩, ⟨rfl, rfl⟩, rfl⟩
    exact ih _ m _ _ S' w2 _ hsz' (hv.lay h hr hn hb hL' (by rw [hc]; rfl) vQ (by rw [← bY]; exact (vQ.top h).1) hFv hg pb hval lH hplb) hcnt
   ·refine value .undef (by rw [hc]; rfl) (fun q hl => ?_) (by rw [e]) ?_
    ·obtain ⟨⟨r', v, iq, _, At, _⟩, _⟩ := hl
     rw [hr] at iq; cases iq; rw [hw] at At; cases At
    ·unfold one
     rw [jB El, hw]
   ·-- it acts
    have he : bA r.cls = true := by rw [hc]; rfl
    have eH := hv.level h hr hn hb he;have hS : S' = (c i).S := by
     have h2 := hv.st;rw [← eH, h.snap hs0 (Nat.le_of_lt (nr hr))] at h2;exact (Option.some.inj h2).symm
    obtain ⟨c1, c2, c3, c4⟩ := hv.bf h hp0 bY (Nat.le_of_lt (nr hr)) eH (fun p => bit r.eE p.i) (fun j q e hp _ => by subst e; exact hb _ hp)
    refine EN av hK c1 hv.F ho ?_;rw [one_congr El, hS, jH];refine ⟨fun ρ2 ed w2 hx hR2 xy => ?_, fun y hy => by cases hy⟩
    obtain ⟨x, rfl, xu⟩ := hx.val;have lU : S2 = (c (i + 1)).S := by rw [e]
    simp only [lU] at hR2 xy;rw [← hS] at xy;exact ih _ (m + 1) _ ρ2 _ w2 _ hsz' (hv.act h hs0 hp0 bY hr hn hb hL' he (by rw [e]) xu hR2 xy) hcnt
   ·-- it only gives
    have pY := qZ i r hr hc;have iP : fM cx r.o = .pure ∨ fM cx r.o = .read := by rw [pY]; exact hc
    have hFv : (c (i + 1)).F = bj (c i).F r.o.dst v := by rw [e]
    have hov : eG cx ops.toList Fs S' r.o = some v := by
     rcases hc with hc | hc
     ·rw [gl El]
      exact oneV_pure (pY.trans hc) jH
     ·have hwr := hwin r (List.mem_of_getElem? hr)
      rw [hc] at hwr;exact h.window hs0 hr jH hFv hwr hv.ag hv.st hv.lv hv.down hn hb (by rw [hc]; rfl)
    refine value v (by rcases hc with hc | hc <;> rw [hc] <;> rfl) (fun q hl => ?_) hFv (oneV_one iP hov)
    obtain ⟨⟨r', v, iq, yW, _⟩, _⟩ := hl;rw [hr] at iq; cases iq; rw [yW] at hc; rcases hc with hc | hc <;> cases hc
 refine wpIn_region_any hm ?_;refine main ops.size _ 0 F ρ (c 0).S _ a (by simp) ?_ (Nat.le_trans (List.countP_le_length) (by simp))
 have hlev0 : jG rows 0 = 0 := rfl;have hR0 : R Λ ρ (c 0).S { w with drawn := w.drawn + 1 } := by
  rw [w9];have h2 := hR.drawn (w.drawn + 1);exact ⟨h2.dJ, fun i o ho => Nat.lt_of_lt_of_le (h2.mT i o ho) (Nat.le_add_right _ _), fun i g hi => h2.fresh i g (Nat.le_trans (Nat.le_add_right _ _) hi), h2.jP, h2.lt, h2.apart, h2.start, h2.base⟩
 have empty : ∀ j, ¬ (Array.replicate ops.size false).getD j false = true := by
  intro j;simp only [Array.getD_eq_getD_getElem?, Array.getElem?_replicate]
  split <;> simp
 have hkp : Kp ρ S w ρ (c 0).S { w with drawn := w.drawn + 1 } := by
  rw [w9];exact ⟨Ext.refl _, rfl, rfl, rfl, Nat.le_refl _, fun _ _ _ => rfl, fun _ h => .inl h, fun _ h => .inl h, Nat.le_add_right _ _, fun _ _ _ h => ⟨rfl, h⟩⟩
 refine ⟨hR.start, by rw [← hlev0]; exact h.snap hs0 (Nat.zero_le _), fun i r hr he => ⟨fun h1 => absurd h1 (empty i), fun h1 => by omega⟩, fun i r j _ h1 => absurd h1 (empty i), hR0, hF, ⟨by rw [w9], by rw [w9], fun t i _ h1 => absurd h1 (empty i), fun t _ => by rw [w9]⟩, hkp, fun j q hl _ => ?_, fun j j' q q' x y _ hl _ _ _ h1 _ => ?_⟩
 ·have ht := hl.top h
  rw [bY] at ht;have hnone : S.h.get q.id = none := by
   cases hg : S.h.get q.id with
   | none => rfl
   | some o => have := hR.mT _ _ hg; omega
  refine ⟨by rw [w9]; exact hnone, ?_, fun h1 => absurd h1 (empty j), fun _ g => hR.fresh _ g ht.1⟩
  rw [w9, zh]; exact ht.2
 ·have ht := hl.top h
  rw [bY] at ht;rw [hR.fresh _ 0 ht.1] at h1; cases h1
end Go.Am
