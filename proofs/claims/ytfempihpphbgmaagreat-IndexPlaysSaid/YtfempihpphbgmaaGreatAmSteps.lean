/-
  The abstract machine: the run of a region that draws its order. Frames, levels, numbers: plain facts.
-/
import Derived.Test.YtfempihpphbgmaaGreatAmTrace
namespace Go.Am
open Go
structure nb (cx : Cx) (K : dH) (ops : List Oper) (rows : List Row) (c : Nat → DK) : Prop where
 step : ∀ (i : Nat) (r : Row), rows[i]? = some r → tS cx K ops r (c i) (c (i + 1))
 num : ∀ (i : Nat) (r : Row), rows[i]? = some r → r.i = i
 lt : ∀ (i : Nat) (r : Row), rows[i]? = some r → r.eE < 2 ^ i
 tot : ∀ (i j : Nat) (r q : Row), rows[i]? = some r → rows[j]? = some q → bA r.cls = true → bA q.cls = true → i < j → bit q.eE i = true
 El : ∀ (i j : Nat) (r q : Row) (d : Nat), rows[i]? = some r → rows[j]? = some q → r.o.dst = some d → d ∈ gH ops q.o → bit q.eE i = true ∨ (bit r.eE j = true ∧ dX q.cls = false)
 single : ∀ (i j : Nat) (r q : Row) (d : Nat), rows[i]? = some r → rows[j]? = some q → r.o.dst = some d → q.o.dst = some d → i = j
theorem isEff_iff {c : Cls} : bA c = true ↔ c = .xH := by cases c <;> simp [bA]
theorem putD_n (F : Fr) (dst : Option Tmp) (v : AV) : (bj F dst v).n = F.n := by
 cases dst with
 | none => rfl
 | some d => rw [iL]; cases Nat.blt d F.n <;> rfl
theorem putD_ds (F : Fr) (dst : Option Tmp) (v : AV) : (bj F dst v).ds = F.ds := by
 cases dst with
 | none => rfl
 | some d => rw [iL]; cases Nat.blt d F.n <;> rfl
theorem zX {F : Fr} {dst : Option Tmp} {v : AV} {t : Nat} (h : dst ≠ some t) : (bj F dst v).t.get t = F.t.get t := by
 cases dst with
 | none => rfl
 | some d =>
  rw [iL]
  cases Nat.blt d F.n with
  | false => rfl
  | true => exact ae _ _ (fun e => h (by rw [e]))
theorem rR {F : Fr} {v : AV} {t : Nat} : (bj F (some t) v).t.get t = if t < F.n then some v else F.t.get t := by
 rw [iL]
 by_cases h : t < F.n
 ·have : Nat.blt t F.n = true := by simpa using h
  rw [this, if_pos h]; exact aa _ _ _
 ·have : Nat.blt t F.n = false := by
   cases hb : Nat.blt t F.n with
   | false => rfl
   | true => exact absurd (by simpa using hb) h
  rw [this, if_neg h]; rfl
theorem stepF {cx : Cx} {K : dH} {ops : List Oper} {r : Row} {c c' : DK} (h : tS cx K ops r c c') : ∃ v, c'.F = bj c.F r.o.dst v := by
 rcases h with ⟨_, ⟨_, v, x, _, rfl⟩ | ⟨_, rfl⟩⟩ | ⟨_, v, S2, _, rfl⟩ | ⟨_, v, _, rfl⟩ <;> exact ⟨_, rfl⟩
section
variable {cx : Cx} {K : dH} {ops : List Oper} {rows : List Row} {c : Nat → DK}
theorem hY {i : Nat} (h : i < rows.length) : ∃ r, rows[i]? = some r := ⟨rows[i], List.getElem?_eq_getElem h⟩
theorem nr {i : Nat} {r : Row} (h : rows[i]? = some r) : i < rows.length := by
 rcases Nat.lt_or_ge i rows.length with h1 | h1
 ·exact h1
 ·rw [List.getElem?_eq_none h1] at h; cases h
theorem nb.n (h : nb cx K ops rows c) : ∀ i, i ≤ rows.length → (c i).F.n = (c 0).F.n := by
 intro i
 induction i with
 | zero => intro _; rfl
 | succ i ih =>
  intro hi;obtain ⟨r, hr⟩ := hY hi;obtain ⟨v, hv⟩ := stepF (h.step i r hr);rw [hv, putD_n]; exact ih (by omega)
theorem nb.ds (h : nb cx K ops rows c) : ∀ i, i ≤ rows.length → (c i).F.ds = (c 0).F.ds := by
 intro i
 induction i with
 | zero => intro _; rfl
 | succ i ih =>
  intro hi;obtain ⟨r, hr⟩ := hY hi;obtain ⟨v, hv⟩ := stepF (h.step i r hr);rw [hv, putD_ds]; exact ih (by omega)
theorem nb.bm (h : nb cx K ops rows c) {t : Nat} {i : Nat} : ∀ j, i ≤ j → j ≤ rows.length → (∀ (k : Nat) (r : Row), i ≤ k → k < j → rows[k]? = some r → r.o.dst ≠ some t) → (c j).F.t.get t = (c i).F.t.get t := by
 intro j
 induction j with
 | zero => intro h1 _ _; have : i = 0 := by omega
           subst this; rfl
 | succ j ih =>
  intro h1 h2 h3
  by_cases fW : i = j + 1
  ·subst fW; rfl
  ·obtain ⟨r, hr⟩ := hY (rows := rows) h2
   obtain ⟨v, hv⟩ := stepF (h.step j r hr);rw [hv, zX (h3 j r (by omega) (by omega) hr)]
   exact ih (by omega) (by omega) fun k r hk1 xy => h3 k r hk1 (by omega)
def Bg (rows : List Row) (t i : Nat) : Prop := ∃ r, rows[i]? = some r ∧ r.o.dst = some t
structure zA (rows : List Row) (c : Nat → DK) (L : Nat → Prop) (F : Fr) : Prop where
 n : F.n = (c 0).F.n
 ds : F.ds = (c 0).F.ds
 yes : ∀ t i, Bg rows t i → L i → F.t.get t = (c rows.length).F.t.get t
 no : ∀ t, (∀ i, Bg rows t i → ¬ L i) → F.t.get t = (c 0).F.t.get t
theorem nb.now (h : nb cx K ops rows c) {L : Nat → Prop} {F : Fr} (ha : zA rows c L F) {i : Nat} {r : Row} (hr : rows[i]? = some r) (hL : ∀ j, bit r.eE j = true → L j) (pW : dX r.cls = true ∨ ∀ (k : Nat) (q : Row), rows[k]? = some q → bit q.eE i = true → ¬ L k) {t : Nat} (ht : t ∈ gH ops r.o) :
  F.t.get t = (c i).F.t.get t := by
 have hi := nr hr
 by_cases hw : ∃ j, Bg rows t j
 ·obtain ⟨j, q, hq, hd⟩ := hw
  rcases h.El j i q r t hq hr hd ht with hb | ⟨hb, yT⟩
  ·have hj := qg (h.lt i r hr) hb
   rw [ha.yes t j ⟨q, hq, hd⟩ (hL j hb)];refine h.bm _ (Nat.le_of_lt hi) (Nat.le_refl _) fun k q' hk1 _ hk mv => ?_
   have := h.single j k q q' t hq hk hd mv;omega
  ·have hj := qg (h.lt j q hq) hb
   have hnj : ¬ L j := by
    rcases pW with h1 | h1
    ·rw [h1] at yT; cases yT
    ·exact h1 j q hq hb
   rw [ha.no t fun k hk hLk => by
    obtain ⟨q', hq', mv⟩ := hk;have := h.single j k q q' t hq hq' hd mv;subst this; exact hnj hLk]
   exact (h.bm i (Nat.zero_le _) (Nat.le_of_lt hi) fun k q' _ xy hk mv => by
    have := h.single j k q q' t hq hk hd mv; omega).symm
 ·rw [ha.no t fun j hj _ => hw ⟨j, hj⟩]
  exact (h.bm i (Nat.zero_le _) (Nat.le_of_lt hi) fun k q' _ _ hk mv => hw ⟨k, q', hk, mv⟩).symm
theorem nb.all (h : nb cx K ops rows c) : zA rows c (fun _ => True) (c rows.length).F :=
 ⟨h.n _ (Nat.le_refl _), h.ds _ (Nat.le_refl _), fun _ _ _ _ => rfl, fun _ hw => h.bm _ (Nat.zero_le _) (Nat.le_refl _) fun k q' _ _ hk mv => hw k ⟨q', hk, mv⟩ trivial⟩
theorem nb.put (h : nb cx K ops rows c) {L L' : Nat → Prop} {F : Fr} (ha : zA rows c L F) {i : Nat} {r : Row} (hr : rows[i]? = some r) (hn : ¬ L i) {v : AV} (hv : (c (i + 1)).F = bj (c i).F r.o.dst v)
  (hL : ∀ j, L' j ↔ L j ∨ j = i) : zA rows c L' (bj F r.o.dst v) := by
 have hi := nr hr;have me : ∀ t, r.o.dst = some t → (bj F r.o.dst v).t.get t = (c rows.length).F.t.get t := by
  intro t hd;have h1 : (c rows.length).F.t.get t = (c (i + 1)).F.t.get t := h.bm _ hi (Nat.le_refl _) fun k q hk _ hq mv => by
   have := h.single i k r q t hr hq hd mv; omega
  rw [h1, hv, hd, rR, rR, ha.n, h.n i (Nat.le_of_lt hi)]
  split
  ·rfl
  ·rw [ha.no t fun j hj hLj => by
    obtain ⟨q, hq, mv⟩ := hj;have := h.single i j r q t hr hq hd mv;subst this; exact hn hLj]
   exact (h.bm i (Nat.zero_le _) (Nat.le_of_lt hi) fun k q _ hk hq mv => by
    have := h.single i k r q t hr hq hd mv; omega).symm
 refine ⟨by rw [putD_n]; exact ha.n, by rw [putD_ds]; exact ha.ds, fun t j hj hLj => ?_, fun t hw => ?_⟩
 ·by_cases hd : r.o.dst = some t
  ·exact me t hd
  ·rw [zX hd]
   rcases (hL j).1 hLj with h1 | h1
   ·exact ha.yes t j hj h1
   ·subst h1
    obtain ⟨q, hq, mv⟩ := hj;rw [hr] at hq; cases hq; exact absurd mv hd
 ·have hd : r.o.dst ≠ some t := fun hd => hw i ⟨r, hr, hd⟩ ((hL i).2 (.inr rfl))
  rw [zX hd];exact ha.no t fun j hj hLj => hw j hj ((hL j).2 (.inl hLj))
def jG (rows : List Row) (i : Nat) : Nat := (rows.take i).countP fun r => bA r.cls
theorem j6 {i : Nat} {r : Row} (h : rows[i]? = some r) : jG rows (i + 1) = jG rows i + (if bA r.cls then 1 else 0) := by
 unfold jG;rw [List.take_add_one, h, List.countP_append];simp [List.countP_cons]
theorem vG {i : Nat} : ∀ {j : Nat}, i ≤ j → jG rows i ≤ jG rows j := by
 intro j fW
 induction j with
 | zero => have : i = 0 := by omega
           subst this; exact Nat.le_refl _
 | succ j ih =>
  by_cases h : i = j + 1
  ·subst h; exact Nat.le_refl _
  ·have h1 := ih (by omega)
   by_cases hj : j < rows.length
   ·obtain ⟨r, hr⟩ := hY hj
    rw [j6 hr]; omega
   ·have : jG rows (j + 1) = jG rows j := by
     unfold jG; rw [List.take_of_length_le (by omega), List.take_of_length_le (by omega)]
    omega
theorem vH {e i : Nat} {r : Row} (h : rows[e]? = some r) (he : bA r.cls = true) : e < i ↔ jG rows e < jG rows i := by
 constructor
 ·intro aL
  have := vG (rows := rows) (i := e + 1) (j := i) aL;rw [j6 h, if_pos he] at this; omega
 ·intro aL
  rcases Nat.lt_or_ge e i with h1 | h1
  ·exact h1
  ·have := vG (rows := rows) h1; omega
theorem Cv : ∀ i, jG rows i = 0 ∨ ∃ (e : Nat) (r : Row), e < i ∧ rows[e]? = some r ∧ bA r.cls = true ∧ jG rows i = jG rows e + 1 := by
 intro i
 induction i with
 | zero => left; rfl
 | succ i ih =>
  by_cases hi : i < rows.length
  ·obtain ⟨r, hr⟩ := hY hi
   rw [j6 hr]
   cases he : bA r.cls with
   | true => exact .inr ⟨i, r, by omega, hr, he, by simp⟩
   | false =>
    rcases ih with h | ⟨e, q, h1, h2, h3, h4⟩
    ·left; simpa using h
    ·exact .inr ⟨e, q, by omega, h2, h3, by simpa using h4⟩
  ·have : jG rows (i + 1) = jG rows i := by
    unfold jG; rw [List.take_of_length_le (by omega), List.take_of_length_le (by omega)]
   rw [this];rcases ih with h | ⟨e, q, h1, h2⟩
   ·exact .inl h
   ·exact .inr ⟨e, q, by omega, h2⟩
def full (c : Nat → DK) (i : Nat) : List AS := (c i).S :: (c i).cd
theorem nb.CP (h : nb cx K ops rows c) (h0 : (c 0).cd = []) : ∀ i, i ≤ rows.length → (full c i).length = jG rows i + 1 := by
 intro i
 induction i with
 | zero => intro _; simp [full, h0, jG]
 | succ i ih =>
  intro hi;obtain ⟨r, hr⟩ := hY hi;have h1 := ih (by omega)
  rw [j6 hr];rcases h.step i r hr with ⟨hc, ⟨_, v, x, _, e⟩ | ⟨_, e⟩⟩ | ⟨hc, v, S2, _, e⟩ | ⟨hc, v, _, e⟩
  ·simp only [full, e, hc, bA] at h1 ⊢; simpa using h1
  ·simp only [full, e, hc, bA] at h1 ⊢; simpa using h1
  ·simp only [full, e, hc, bA] at h1 ⊢; simpa using h1
  ·rcases hc with hc | hc <;> (simp only [full, e, hc, bA] at h1 ⊢; simpa using h1)
theorem nb.full_suf (h : nb cx K ops rows c) {i : Nat} : ∀ j, i ≤ j → j ≤ rows.length → ∃ pre, full c j = pre ++ full c i := by
 intro j
 induction j with
 | zero => intro h1 _; have : i = 0 := by omega
           subst this; exact ⟨[], rfl⟩
 | succ j ih =>
  intro h1 h2
  by_cases fW : i = j + 1
  ·subst fW; exact ⟨[], rfl⟩
  ·obtain ⟨pre, hp⟩ := ih (by omega) (by omega)
   obtain ⟨r, hr⟩ := hY (rows := rows) h2;rcases h.step j r hr with ⟨hc, ⟨_, v, x, _, e⟩ | ⟨_, e⟩⟩ | ⟨hc, v, S2, _, e⟩ | ⟨hc, v, _, e⟩
   ·exact ⟨pre, by rw [← hp]; simp [full, e]⟩
   ·exact ⟨pre, by rw [← hp]; simp [full, e]⟩
   ·exact ⟨S2 :: pre, by rw [List.cons_append, ← hp]; simp [full, e]⟩
   ·exact ⟨pre, by rw [← hp]; simp [full, e]⟩
def fN (rows : List Row) (c : Nat → DK) : List AS := (full c rows.length).reverse
theorem nb.snap (h : nb cx K ops rows c) (h0 : (c 0).cd = []) {i : Nat} (hi : i ≤ rows.length) : (fN rows c)[jG rows i]? = some (c i).S := by
 obtain ⟨pre, hp⟩ := h.full_suf rows.length hi (Nat.le_refl _);have hl := h.CP h0 i hi;unfold fN;rw [hp, List.reverse_append, List.getElem?_append_left (by rw [List.length_reverse, hl]; omega)]
 have : (full c i).reverse = (c i).cd.reverse ++ [(c i).S] := by simp [full]
 rw [this];have rH : (c i).cd.reverse.length = jG rows i := by
  simp only [full, List.length_cons] at hl;rw [List.length_reverse]; omega
 rw [← rH]; simp
theorem nb.BE (h : nb cx K ops rows c) (h0 : (c 0).cd = []) : (fN rows c).length = jG rows rows.length + 1 := by
 unfold fN; rw [List.length_reverse]; exact h.CP h0 _ (Nat.le_refl _)
structure Laid (cx : Cx) (ops : List Oper) (rows : List Row) (c : Nat → DK) (j : Nat) (q : dC) : Prop where
 row : ∃ r v, rows[j]? = some r ∧ r.cls = .fresh ∧ wanted ops (c j).F r.o = some true ∧ aI cx (c j).F q.id r.o.op = some (v, q.obj)
 i : q.i = j
 id : q.id = (c j).id
theorem nb.id_le (h : nb cx K ops rows c) {i : Nat} : ∀ j, i ≤ j → j ≤ rows.length → (c i).id ≤ (c j).id := by
 intro j
 induction j with
 | zero => intro h1 _; have : i = 0 := by omega
           subst this; exact Nat.le_refl _
 | succ j ih =>
  intro h1 h2
  by_cases fW : i = j + 1
  ·subst fW; exact Nat.le_refl _
  ·have := ih (by omega) (by omega)
   obtain ⟨r, hr⟩ := hY (rows := rows) h2;rcases h.step j r hr with ⟨hc, ⟨_, v, x, _, e⟩ | ⟨_, e⟩⟩ | ⟨hc, v, S2, _, e⟩ | ⟨hc, v, _, e⟩ <;> (rw [e]; simp only []; omega)
theorem Laid.next (h : nb cx K ops rows c) {j : Nat} {q : dC} (hl : Laid cx ops rows c j q) : (c (j + 1)).id = (c j).id + 1 ∧ j < rows.length ∧ ∃ x, (c (j + 1)).ps = q :: (c j).ps ∧ x = q := by
 obtain ⟨⟨r, v, hr, hc, hw, hf⟩, hi, bY⟩ := hl;rcases h.step j r hr with ⟨_, ⟨_, v', x, xz, e⟩ | ⟨At, e⟩⟩ | ⟨iP, _⟩ | ⟨iP, _⟩
 ·rw [bY, xz] at hf
  cases hf
  refine ⟨by rw [e], nr hr, q, ?_, rfl⟩
  rw [e];obtain ⟨qi, qid, qo⟩ := q;simp only at hi bY;subst hi bY;rw [h.num _ r hr]
 ·rw [hw] at At; cases At
 ·rw [hc] at iP; cases iP
 ·rw [hc] at iP; rcases iP with iP | iP <;> cases iP
theorem Laid.apart (h : nb cx K ops rows c) {j j' : Nat} {q q' : dC} (hl : Laid cx ops rows c j q) (oJ : Laid cx ops rows c j' q') (bO : j ≠ j') : q.id ≠ q'.id := by
 have h1 := hl.next h;have h2 := oJ.next h;rw [hl.id, oJ.id];rcases Nat.lt_or_ge j j' with aL | m9
 ·have := h.id_le (i := j + 1) j' aL (by omega); omega
 ·have := h.id_le (i := j' + 1) j (by omega) (by omega); omega
theorem nb.id_top (h : nb cx K ops rows c) : ∀ i, i ≤ rows.length → (c i).id ≤ (c 0).id + (rows.take i).countP (fun r => bV r.cls) := by
 intro i
 induction i with
 | zero => intro _; simp
 | succ i ih =>
  intro hi;have := ih (by omega)
  obtain ⟨r, hr⟩ := hY (rows := rows) hi;rw [List.take_add_one, hr, List.countP_append];rcases h.step i r hr with ⟨hc, ⟨_, v, x, _, e⟩ | ⟨_, e⟩⟩ | ⟨hc, v, S2, _, e⟩ | ⟨hc, v, _, e⟩
  ·have h1 : List.countP (fun r : Row => bV r.cls) (some r).toList = 1 := by simp [hc, bV]
   rw [e, h1]; simp only []; omega
  ·rw [e]; simp only []; omega
  ·rw [e]; simp only []; omega
  ·rw [e]; simp only []; omega
theorem Laid.top (h : nb cx K ops rows c) {j : Nat} {q : dC} (hl : Laid cx ops rows c j q) : (c 0).id ≤ q.id ∧ q.id < (c 0).id + rows.countP (fun r => bV r.cls) := by
 obtain ⟨h1, h2, _⟩ := hl.next h;have h3 := h.id_le (i := 0) j (Nat.zero_le _) (by omega)
 have h4 := h.id_top (j + 1) h2;have h5 : (rows.take (j + 1)).countP (fun r => bV r.cls) ≤ rows.countP (fun r => bV r.cls) := List.Sublist.countP_le (List.take_sublist _ _)
 rw [hl.id]; omega
theorem nb.waits (h : nb cx K ops rows c) (h0 : (c 0).ps = []) : ∀ i, i ≤ rows.length → (∀ q, q ∈ (c i).ps ↔ ∃ j, j < i ∧ Laid cx ops rows c j q ∧ ∀ (e : Nat) (r : Row), e < i → rows[e]? = some r → bA r.cls = true → bit r.eE j = false) ∧
  (c i).ps.Pairwise fun p q => p.id ≠ q.id := by
 intro i
 induction i with
 | zero => intro _; rw [h0]; exact ⟨fun q => ⟨fun hq => (by cases hq), fun ⟨j, hj, _⟩ => (by omega)⟩, .nil⟩
 | succ i ih =>
  intro hi;obtain ⟨h1, h2⟩ := ih (by omega)
  obtain ⟨r, hr⟩ := hY (rows := rows) hi;have same : (c (i + 1)).ps = (c i).ps → r.cls ≠ .xH → (∀ q, ¬ Laid cx ops rows c i q) → (∀ q, q ∈ (c (i + 1)).ps ↔ ∃ j, j < i + 1 ∧ Laid cx ops rows c j q ∧ ∀ (e : Nat) (r : Row), e < i + 1 → rows[e]? = some r → bA r.cls = true → bit r.eE j = false) ∧
    (c (i + 1)).ps.Pairwise fun p q => p.id ≠ q.id := by
   intro e hc pW;rw [e];refine ⟨fun q => (h1 q).trans ⟨?_, ?_⟩, h2⟩
   ·rintro ⟨j, hj, hl, hq⟩
    refine ⟨j, by omega, hl, fun e' r' he iq iP => ?_⟩
    by_cases hei : e' = i
    ·subst hei; rw [hr] at iq; cases iq; exact absurd (isEff_iff.1 iP) hc
    ·exact hq e' r' (by omega) iq iP
   ·rintro ⟨j, hj, hl, hq⟩
    have : j ≠ i := fun e => by subst e; exact pW q hl
    exact ⟨j, by omega, hl, fun e' r' he => hq e' r' (by omega)⟩
  rcases h.step i r hr with ⟨hc, ⟨hw, v, x, hf, e⟩ | ⟨hw, e⟩⟩ | ⟨hc, v, S2, _, e⟩ | ⟨hc, v, _, e⟩
  ·have vQ : Laid cx ops rows c i ⟨r.i, (c i).id, x⟩ := ⟨⟨r, v, hr, hc, hw, hf⟩, h.num i r hr, rfl⟩
   have hps : (c (i + 1)).ps = ⟨r.i, (c i).id, x⟩ :: (c i).ps := by rw [e]
   rw [hps];refine ⟨fun q => ?_, ?_⟩
   ·rw [List.mem_cons, h1]
    constructor
    ·rintro (rfl | ⟨j, hj, hl, hq⟩)
     ·refine ⟨i, by omega, vQ, fun e' r' he iq iP => ?_⟩
      cases hb : bit r'.eE i with
      | false => rfl
      | true => have := qg (h.lt e' r' iq) hb; omega
     ·refine ⟨j, by omega, hl, fun e' r' he iq iP => ?_⟩
      by_cases hei : e' = i
      ·subst hei; rw [hr] at iq; cases iq; rw [hc] at iP; cases iP
      ·exact hq e' r' (by omega) iq iP
    ·rintro ⟨j, hj, hl, hq⟩
     by_cases CJ : j = i
     ·subst CJ
      left
      obtain ⟨_, _, _, hps', _⟩ := hl.next h;rw [hps] at hps';exact (List.cons.inj hps').1.symm
     ·exact .inr ⟨j, by omega, hl, fun e' r' he => hq e' r' (by omega)⟩
   ·refine List.pairwise_cons.2 ⟨fun q hq => ?_, h2⟩
    obtain ⟨j, hj, hl, _⟩ := (h1 q).1 hq;exact vQ.apart h hl (by omega)
  ·exact same (by rw [e]) (by rw [hc]; simp) fun q hl => by
    obtain ⟨⟨r', v, iq, _, At, _⟩, _⟩ := hl;rw [hr] at iq; cases iq; rw [hw] at At; cases At
  ·have hps : (c (i + 1)).ps = (c i).ps.filter (fun p => !bit r.eE p.i) := by rw [e]
   rw [hps];refine ⟨fun q => ?_, h2.filter _⟩
   rw [List.mem_filter, h1]
   constructor
   ·rintro ⟨⟨j, hj, hl, hq⟩, hb⟩
    refine ⟨j, by omega, hl, fun e' r' he iq iP => ?_⟩
    by_cases hei : e' = i
    ·subst hei; rw [hr] at iq; cases iq; rw [hl.i] at hb; simpa using hb
    ·exact hq e' r' (by omega) iq iP
   ·rintro ⟨j, hj, hl, hq⟩
    have CJ : j ≠ i := fun e => by
     subst e;obtain ⟨⟨r', v, iq, iP, _⟩, _⟩ := hl;rw [hr] at iq; cases iq; rw [hc] at iP; cases iP
    refine ⟨⟨j, by omega, hl, fun e' r' he => hq e' r' (by omega)⟩, ?_⟩
    rw [hl.i];have := hq i r (by omega) hr (by rw [hc]; rfl)
    simpa using this
  ·exact same (by rw [e]) (by rcases hc with hc | hc <;> (rw [hc]; simp)) fun q hl => by
    obtain ⟨⟨r', v, iq, iP, _⟩, _⟩ := hl;rw [hr] at iq; cases iq; rw [iP] at hc; rcases hc with hc | hc <;> cases hc
end
end Go.Am
