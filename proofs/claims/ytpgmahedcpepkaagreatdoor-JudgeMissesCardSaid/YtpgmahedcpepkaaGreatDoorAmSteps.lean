/-
  The abstract machine: the run of a region that draws its order. Frames, levels, numbers: plain facts.
  The abstract machine: a region that draws its order bears what its text's order gives.
-/
import Derived.Test.YtpgmahedcpepkaaGreatDoorAmPlan
namespace Go.Am
open Go

structure Run (cx : Cx) (K : CallK) (ops : List Oper) (rows : List Row) (c : Nat → Cfg) : Prop where
  step : ∀ (i : Nat) (r : Row), rows[i]? = some r → StepR cx K ops r (c i) (c (i + 1))
  num : ∀ (i : Nat) (r : Row), rows[i]? = some r → r.i = i
  lt : ∀ (i : Nat) (r : Row), rows[i]? = some r → r.bef < 2 ^ i
  tot : ∀ (i j : Nat) (r q : Row), rows[i]? = some r → rows[j]? = some q → isEff r.cls = true → isEff q.cls = true → i < j → bit q.bef i = true
  sees : ∀ (i j : Nat) (r q : Row) (d : Nat), rows[i]? = some r → rows[j]? = some q → r.o.dst = some d → d ∈ seesL ops q.o → bit q.bef i = true ∨ (bit r.bef j = true ∧ isRead q.cls = false)
  single : ∀ (i j : Nat) (r q : Row) (d : Nat), rows[i]? = some r → rows[j]? = some q → r.o.dst = some d → q.o.dst = some d → i = j

theorem isEff_iff {c : Cls} : isEff c = true ↔ c = .eff := by cases c <;> simp [isEff]
theorem isFresh_iff {c : Cls} : isFresh c = true ↔ c = .fresh := by cases c <;> simp [isFresh]
theorem isRead_iff {c : Cls} : isRead c = true ↔ c = .read := by cases c <;> simp [isRead]

theorem putD_n (F : Fr) (dst : Option Tmp) (v : AV) : (putD F dst v).n = F.n := by
  cases dst with
  | none => rfl
  | some d => rw [putD_some]; cases Nat.blt d F.n <;> rfl
theorem putD_ds (F : Fr) (dst : Option Tmp) (v : AV) : (putD F dst v).ds = F.ds := by
  cases dst with
  | none => rfl
  | some d => rw [putD_some]; cases Nat.blt d F.n <;> rfl
theorem putD_ne {F : Fr} {dst : Option Tmp} {v : AV} {t : Nat} (h : dst ≠ some t) : (putD F dst v).t.get t = F.t.get t := by
  cases dst with
  | none => rfl
  | some d =>
    rw [putD_some]
    cases Nat.blt d F.n with
    | false => rfl
    | true => exact get_set_ne _ _ (fun e => h (by rw [e]))
theorem putD_same {F : Fr} {v : AV} {t : Nat} : (putD F (some t) v).t.get t = if t < F.n then some v else F.t.get t := by
  rw [putD_some]
  by_cases h : t < F.n
  · have : Nat.blt t F.n = true := by simpa using h
    rw [this, if_pos h]; exact get_set_same _ _ _
  · have : Nat.blt t F.n = false := by
      cases hb : Nat.blt t F.n with
      | false => rfl
      | true => exact absurd (by simpa using hb) h
    rw [this, if_neg h]; rfl

theorem stepF {cx : Cx} {K : CallK} {ops : List Oper} {r : Row} {c c' : Cfg} (h : StepR cx K ops r c c') : ∃ v, c'.F = putD c.F r.o.dst v := by
  rcases h with ⟨_, ⟨_, v, x, _, rfl⟩ | ⟨_, rfl⟩⟩ | ⟨_, v, S2, _, rfl⟩ | ⟨_, v, _, rfl⟩ <;> exact ⟨_, rfl⟩

section
variable {cx : Cx} {K : CallK} {ops : List Oper} {rows : List Row} {c : Nat → Cfg}

theorem row_at {i : Nat} (h : i < rows.length) : ∃ r, rows[i]? = some r := ⟨rows[i], List.getElem?_eq_getElem h⟩
theorem row_lt {i : Nat} {r : Row} (h : rows[i]? = some r) : i < rows.length := by
  rcases Nat.lt_or_ge i rows.length with h1 | h1
  · exact h1
  · rw [List.getElem?_eq_none h1] at h; cases h

theorem Run.n (h : Run cx K ops rows c) : ∀ i, i ≤ rows.length → (c i).F.n = (c 0).F.n := by
  intro i
  induction i with
  | zero => intro _; rfl
  | succ i ih =>
    intro hi
    obtain ⟨r, hr⟩ := row_at hi
    obtain ⟨v, hv⟩ := stepF (h.step i r hr)
    rw [hv, putD_n]; exact ih (by omega)
theorem Run.ds (h : Run cx K ops rows c) : ∀ i, i ≤ rows.length → (c i).F.ds = (c 0).F.ds := by
  intro i
  induction i with
  | zero => intro _; rfl
  | succ i ih =>
    intro hi
    obtain ⟨r, hr⟩ := row_at hi
    obtain ⟨v, hv⟩ := stepF (h.step i r hr)
    rw [hv, putD_ds]; exact ih (by omega)
theorem Run.keep (h : Run cx K ops rows c) {t : Nat} {i : Nat} : ∀ j, i ≤ j → j ≤ rows.length → (∀ (k : Nat) (r : Row), i ≤ k → k < j → rows[k]? = some r → r.o.dst ≠ some t) → (c j).F.t.get t = (c i).F.t.get t := by
  intro j
  induction j with
  | zero => intro h1 _ _; have : i = 0 := by omega
            subst this; rfl
  | succ j ih =>
    intro h1 h2 h3
    by_cases hij : i = j + 1
    · subst hij; rfl
    · obtain ⟨r, hr⟩ := row_at (rows := rows) h2
      obtain ⟨v, hv⟩ := stepF (h.step j r hr)
      rw [hv, putD_ne (h3 j r (by omega) (by omega) hr)]
      exact ih (by omega) (by omega) fun k r hk1 hk2 => h3 k r hk1 (by omega)

def Writes (rows : List Row) (t i : Nat) : Prop := ∃ r, rows[i]? = some r ∧ r.o.dst = some t
structure Agree (rows : List Row) (c : Nat → Cfg) (L : Nat → Prop) (F : Fr) : Prop where
  n : F.n = (c 0).F.n
  ds : F.ds = (c 0).F.ds
  yes : ∀ t i, Writes rows t i → L i → F.t.get t = (c rows.length).F.t.get t
  no : ∀ t, (∀ i, Writes rows t i → ¬ L i) → F.t.get t = (c 0).F.t.get t

theorem Run.now (h : Run cx K ops rows c) {L : Nat → Prop} {F : Fr} (ha : Agree rows c L F) {i : Nat} {r : Row} (hr : rows[i]? = some r) (hL : ∀ j, bit r.bef j = true → L j) (hno : isRead r.cls = true ∨ ∀ (k : Nat) (q : Row), rows[k]? = some q → bit q.bef i = true → ¬ L k) {t : Nat} (ht : t ∈ seesL ops r.o) :
    F.t.get t = (c i).F.t.get t := by
  have hi := row_lt hr
  by_cases hw : ∃ j, Writes rows t j
  · obtain ⟨j, q, hq, hd⟩ := hw
    rcases h.sees j i q r t hq hr hd ht with hb | ⟨hb, hrd⟩
    · have hj := bit_lt (h.lt i r hr) hb
      rw [ha.yes t j ⟨q, hq, hd⟩ (hL j hb)]
      refine h.keep _ (Nat.le_of_lt hi) (Nat.le_refl _) fun k q' hk1 _ hk hd' => ?_
      have := h.single j k q q' t hq hk hd hd'
      omega
    · have hj := bit_lt (h.lt j q hq) hb
      have hnj : ¬ L j := by
        rcases hno with h1 | h1
        · rw [h1] at hrd; cases hrd
        · exact h1 j q hq hb
      rw [ha.no t fun k hk hLk => by
        obtain ⟨q', hq', hd'⟩ := hk
        have := h.single j k q q' t hq hq' hd hd'
        subst this; exact hnj hLk]
      exact (h.keep i (Nat.zero_le _) (Nat.le_of_lt hi) fun k q' _ hk2 hk hd' => by
        have := h.single j k q q' t hq hk hd hd'; omega).symm
  · rw [ha.no t fun j hj _ => hw ⟨j, hj⟩]
    exact (h.keep i (Nat.zero_le _) (Nat.le_of_lt hi) fun k q' _ _ hk hd' => hw ⟨k, q', hk, hd'⟩).symm
theorem Run.all (h : Run cx K ops rows c) : Agree rows c (fun _ => True) (c rows.length).F :=
  ⟨h.n _ (Nat.le_refl _), h.ds _ (Nat.le_refl _), fun _ _ _ _ => rfl, fun _ hw => h.keep _ (Nat.zero_le _) (Nat.le_refl _) fun k q' _ _ hk hd' => hw k ⟨q', hk, hd'⟩ trivial⟩
theorem Run.put (h : Run cx K ops rows c) {L L' : Nat → Prop} {F : Fr} (ha : Agree rows c L F) {i : Nat} {r : Row} (hr : rows[i]? = some r) (hn : ¬ L i) {v : AV} (hv : (c (i + 1)).F = putD (c i).F r.o.dst v)
    (hL : ∀ j, L' j ↔ L j ∨ j = i) : Agree rows c L' (putD F r.o.dst v) := by
  have hi := row_lt hr
  have me : ∀ t, r.o.dst = some t → (putD F r.o.dst v).t.get t = (c rows.length).F.t.get t := by
    intro t hd
    have h1 : (c rows.length).F.t.get t = (c (i + 1)).F.t.get t := h.keep _ hi (Nat.le_refl _) fun k q hk _ hq hd' => by
      have := h.single i k r q t hr hq hd hd'; omega
    rw [h1, hv, hd, putD_same, putD_same, ha.n, h.n i (Nat.le_of_lt hi)]
    split
    · rfl
    · rw [ha.no t fun j hj hLj => by
        obtain ⟨q, hq, hd'⟩ := hj
        have := h.single i j r q t hr hq hd hd'
        subst this; exact hn hLj]
      exact (h.keep i (Nat.zero_le _) (Nat.le_of_lt hi) fun k q _ hk hq hd' => by
        have := h.single i k r q t hr hq hd hd'; omega).symm
  refine ⟨by rw [putD_n]; exact ha.n, by rw [putD_ds]; exact ha.ds, fun t j hj hLj => ?_, fun t hw => ?_⟩
  · by_cases hd : r.o.dst = some t
    · exact me t hd
    · rw [putD_ne hd]
      rcases (hL j).1 hLj with h1 | h1
      · exact ha.yes t j hj h1
      · subst h1
        obtain ⟨q, hq, hd'⟩ := hj
        rw [hr] at hq; cases hq; exact absurd hd' hd
  · have hd : r.o.dst ≠ some t := fun hd => hw i ⟨r, hr, hd⟩ ((hL i).2 (.inr rfl))
    rw [putD_ne hd]
    exact ha.no t fun j hj hLj => hw j hj ((hL j).2 (.inl hLj))

/-! ### Levels -/
def lev (rows : List Row) (i : Nat) : Nat := (rows.take i).countP fun r => isEff r.cls
theorem lev_succ {i : Nat} {r : Row} (h : rows[i]? = some r) : lev rows (i + 1) = lev rows i + (if isEff r.cls then 1 else 0) := by
  unfold lev
  rw [List.take_add_one, h, List.countP_append]
  simp [List.countP_cons]
theorem lev_mono {i : Nat} : ∀ {j : Nat}, i ≤ j → lev rows i ≤ lev rows j := by
  intro j hij
  induction j with
  | zero => have : i = 0 := by omega
            subst this; exact Nat.le_refl _
  | succ j ih =>
    by_cases h : i = j + 1
    · subst h; exact Nat.le_refl _
    · have h1 := ih (by omega)
      by_cases hj : j < rows.length
      · obtain ⟨r, hr⟩ := row_at hj
        rw [lev_succ hr]; omega
      · have : lev rows (j + 1) = lev rows j := by
          unfold lev; rw [List.take_of_length_le (by omega), List.take_of_length_le (by omega)]
        omega
theorem lev_lt {e i : Nat} {r : Row} (h : rows[e]? = some r) (he : isEff r.cls = true) : e < i ↔ lev rows e < lev rows i := by
  constructor
  · intro hlt
    have := lev_mono (rows := rows) (i := e + 1) (j := i) hlt
    rw [lev_succ h, if_pos he] at this; omega
  · intro hlt
    rcases Nat.lt_or_ge e i with h1 | h1
    · exact h1
    · have := lev_mono (rows := rows) h1; omega
/-- The last that acts ahead of i. -/
theorem lev_last : ∀ i, lev rows i = 0 ∨ ∃ (e : Nat) (r : Row), e < i ∧ rows[e]? = some r ∧ isEff r.cls = true ∧ lev rows i = lev rows e + 1 := by
  intro i
  induction i with
  | zero => left; rfl
  | succ i ih =>
    by_cases hi : i < rows.length
    · obtain ⟨r, hr⟩ := row_at hi
      rw [lev_succ hr]
      cases he : isEff r.cls with
      | true => exact .inr ⟨i, r, by omega, hr, he, by simp⟩
      | false =>
        rcases ih with h | ⟨e, q, h1, h2, h3, h4⟩
        · left; simpa using h
        · exact .inr ⟨e, q, by omega, h2, h3, by simpa using h4⟩
    · have : lev rows (i + 1) = lev rows i := by
        unfold lev; rw [List.take_of_length_le (by omega), List.take_of_length_le (by omega)]
      rw [this]
      rcases ih with h | ⟨e, q, h1, h2⟩
      · exact .inl h
      · exact .inr ⟨e, q, by omega, h2⟩

/-- The memories, the first one first. -/
def full (c : Nat → Cfg) (i : Nat) : List AS := (c i).S :: (c i).snaps
theorem Run.full_len (h : Run cx K ops rows c) (h0 : (c 0).snaps = []) : ∀ i, i ≤ rows.length → (full c i).length = lev rows i + 1 := by
  intro i
  induction i with
  | zero => intro _; simp [full, h0, lev]
  | succ i ih =>
    intro hi
    obtain ⟨r, hr⟩ := row_at hi
    have h1 := ih (by omega)
    rw [lev_succ hr]
    rcases h.step i r hr with ⟨hc, ⟨_, v, x, _, e⟩ | ⟨_, e⟩⟩ | ⟨hc, v, S2, _, e⟩ | ⟨hc, v, _, e⟩
    · simp only [full, e, hc, isEff] at h1 ⊢; simpa using h1
    · simp only [full, e, hc, isEff] at h1 ⊢; simpa using h1
    · simp only [full, e, hc, isEff] at h1 ⊢; simpa using h1
    · rcases hc with hc | hc <;> (simp only [full, e, hc, isEff] at h1 ⊢; simpa using h1)
theorem Run.full_suf (h : Run cx K ops rows c) {i : Nat} : ∀ j, i ≤ j → j ≤ rows.length → ∃ pre, full c j = pre ++ full c i := by
  intro j
  induction j with
  | zero => intro h1 _; have : i = 0 := by omega
            subst this; exact ⟨[], rfl⟩
  | succ j ih =>
    intro h1 h2
    by_cases hij : i = j + 1
    · subst hij; exact ⟨[], rfl⟩
    · obtain ⟨pre, hp⟩ := ih (by omega) (by omega)
      obtain ⟨r, hr⟩ := row_at (rows := rows) h2
      rcases h.step j r hr with ⟨hc, ⟨_, v, x, _, e⟩ | ⟨_, e⟩⟩ | ⟨hc, v, S2, _, e⟩ | ⟨hc, v, _, e⟩
      · exact ⟨pre, by rw [← hp]; simp [full, e]⟩
      · exact ⟨pre, by rw [← hp]; simp [full, e]⟩
      · exact ⟨S2 :: pre, by rw [List.cons_append, ← hp]; simp [full, e]⟩
      · exact ⟨pre, by rw [← hp]; simp [full, e]⟩
def snapsL (rows : List Row) (c : Nat → Cfg) : List AS := (full c rows.length).reverse
theorem Run.snap (h : Run cx K ops rows c) (h0 : (c 0).snaps = []) {i : Nat} (hi : i ≤ rows.length) : (snapsL rows c)[lev rows i]? = some (c i).S := by
  obtain ⟨pre, hp⟩ := h.full_suf rows.length hi (Nat.le_refl _)
  have hl := h.full_len h0 i hi
  unfold snapsL
  rw [hp, List.reverse_append, List.getElem?_append_left (by rw [List.length_reverse, hl]; omega)]
  have : (full c i).reverse = (c i).snaps.reverse ++ [(c i).S] := by simp [full]
  rw [this]
  have hl2 : (c i).snaps.reverse.length = lev rows i := by
    simp only [full, List.length_cons] at hl
    rw [List.length_reverse]; omega
  rw [← hl2]; simp
theorem Run.snap_len (h : Run cx K ops rows c) (h0 : (c 0).snaps = []) : (snapsL rows c).length = lev rows rows.length + 1 := by
  unfold snapsL; rw [List.length_reverse]; exact h.full_len h0 _ (Nat.le_refl _)

/-! ### Blocks that wait -/
structure Laid (cx : Cx) (ops : List Oper) (rows : List Row) (c : Nat → Cfg) (j : Nat) (q : Pend) : Prop where
  row : ∃ r v, rows[j]? = some r ∧ r.cls = .fresh ∧ wanted ops (c j).F r.o = some true ∧ freshV cx (c j).F q.id r.o.op = some (v, q.obj)
  i : q.i = j
  id : q.id = (c j).id
theorem Run.id_le (h : Run cx K ops rows c) {i : Nat} : ∀ j, i ≤ j → j ≤ rows.length → (c i).id ≤ (c j).id := by
  intro j
  induction j with
  | zero => intro h1 _; have : i = 0 := by omega
            subst this; exact Nat.le_refl _
  | succ j ih =>
    intro h1 h2
    by_cases hij : i = j + 1
    · subst hij; exact Nat.le_refl _
    · have := ih (by omega) (by omega)
      obtain ⟨r, hr⟩ := row_at (rows := rows) h2
      rcases h.step j r hr with ⟨hc, ⟨_, v, x, _, e⟩ | ⟨_, e⟩⟩ | ⟨hc, v, S2, _, e⟩ | ⟨hc, v, _, e⟩ <;> (rw [e]; simp only []; omega)
theorem Laid.next (h : Run cx K ops rows c) {j : Nat} {q : Pend} (hl : Laid cx ops rows c j q) : (c (j + 1)).id = (c j).id + 1 ∧ j < rows.length ∧ ∃ x, (c (j + 1)).ps = q :: (c j).ps ∧ x = q := by
  obtain ⟨⟨r, v, hr, hc, hw, hf⟩, hi, hid⟩ := hl
  rcases h.step j r hr with ⟨_, ⟨_, v', x, hf', e⟩ | ⟨hw', e⟩⟩ | ⟨hc', _⟩ | ⟨hc', _⟩
  · rw [hid, hf'] at hf
    cases hf
    refine ⟨by rw [e], row_lt hr, q, ?_, rfl⟩
    rw [e]
    obtain ⟨qi, qid, qo⟩ := q
    simp only at hi hid
    subst hi hid
    rw [h.num _ r hr]
  · rw [hw] at hw'; cases hw'
  · rw [hc] at hc'; cases hc'
  · rw [hc] at hc'; rcases hc' with hc' | hc' <;> cases hc'
theorem Laid.apart (h : Run cx K ops rows c) {j j' : Nat} {q q' : Pend} (hl : Laid cx ops rows c j q) (hl' : Laid cx ops rows c j' q') (hne : j ≠ j') : q.id ≠ q'.id := by
  have h1 := hl.next h
  have h2 := hl'.next h
  rw [hl.id, hl'.id]
  rcases Nat.lt_or_ge j j' with hlt | hge
  · have := h.id_le (i := j + 1) j' hlt (by omega); omega
  · have := h.id_le (i := j' + 1) j (by omega) (by omega); omega
theorem Run.id_top (h : Run cx K ops rows c) : ∀ i, i ≤ rows.length → (c i).id ≤ (c 0).id + (rows.take i).countP (fun r => isFresh r.cls) := by
  intro i
  induction i with
  | zero => intro _; simp
  | succ i ih =>
    intro hi
    have := ih (by omega)
    obtain ⟨r, hr⟩ := row_at (rows := rows) hi
    rw [List.take_add_one, hr, List.countP_append]
    rcases h.step i r hr with ⟨hc, ⟨_, v, x, _, e⟩ | ⟨_, e⟩⟩ | ⟨hc, v, S2, _, e⟩ | ⟨hc, v, _, e⟩
    · have h1 : List.countP (fun r : Row => isFresh r.cls) (some r).toList = 1 := by simp [hc, isFresh]
      rw [e, h1]; simp only []; omega
    · rw [e]; simp only []; omega
    · rw [e]; simp only []; omega
    · rw [e]; simp only []; omega
theorem Laid.top (h : Run cx K ops rows c) {j : Nat} {q : Pend} (hl : Laid cx ops rows c j q) : (c 0).id ≤ q.id ∧ q.id < (c 0).id + rows.countP (fun r => isFresh r.cls) := by
  obtain ⟨h1, h2, _⟩ := hl.next h
  have h3 := h.id_le (i := 0) j (Nat.zero_le _) (by omega)
  have h4 := h.id_top (j + 1) h2
  have h5 : (rows.take (j + 1)).countP (fun r => isFresh r.cls) ≤ rows.countP (fun r => isFresh r.cls) := List.Sublist.countP_le (List.take_sublist _ _)
  rw [hl.id]; omega
/-- What waits at i. -/
theorem Run.waits (h : Run cx K ops rows c) (h0 : (c 0).ps = []) : ∀ i, i ≤ rows.length → (∀ q, q ∈ (c i).ps ↔ ∃ j, j < i ∧ Laid cx ops rows c j q ∧ ∀ (e : Nat) (r : Row), e < i → rows[e]? = some r → isEff r.cls = true → bit r.bef j = false) ∧
    (c i).ps.Pairwise fun p q => p.id ≠ q.id := by
  intro i
  induction i with
  | zero => intro _; rw [h0]; exact ⟨fun q => ⟨fun hq => (by cases hq), fun ⟨j, hj, _⟩ => (by omega)⟩, .nil⟩
  | succ i ih =>
    intro hi
    obtain ⟨h1, h2⟩ := ih (by omega)
    obtain ⟨r, hr⟩ := row_at (rows := rows) hi
    have same : (c (i + 1)).ps = (c i).ps → r.cls ≠ .eff → (∀ q, ¬ Laid cx ops rows c i q) → (∀ q, q ∈ (c (i + 1)).ps ↔ ∃ j, j < i + 1 ∧ Laid cx ops rows c j q ∧ ∀ (e : Nat) (r : Row), e < i + 1 → rows[e]? = some r → isEff r.cls = true → bit r.bef j = false) ∧
        (c (i + 1)).ps.Pairwise fun p q => p.id ≠ q.id := by
      intro e hc hno
      rw [e]
      refine ⟨fun q => (h1 q).trans ⟨?_, ?_⟩, h2⟩
      · rintro ⟨j, hj, hl, hq⟩
        refine ⟨j, by omega, hl, fun e' r' he hr' hc' => ?_⟩
        by_cases hei : e' = i
        · subst hei; rw [hr] at hr'; cases hr'; exact absurd (isEff_iff.1 hc') hc
        · exact hq e' r' (by omega) hr' hc'
      · rintro ⟨j, hj, hl, hq⟩
        have : j ≠ i := fun e => by subst e; exact hno q hl
        exact ⟨j, by omega, hl, fun e' r' he => hq e' r' (by omega)⟩
    rcases h.step i r hr with ⟨hc, ⟨hw, v, x, hf, e⟩ | ⟨hw, e⟩⟩ | ⟨hc, v, S2, _, e⟩ | ⟨hc, v, _, e⟩
    · have hlaid : Laid cx ops rows c i ⟨r.i, (c i).id, x⟩ := ⟨⟨r, v, hr, hc, hw, hf⟩, h.num i r hr, rfl⟩
      have hps : (c (i + 1)).ps = ⟨r.i, (c i).id, x⟩ :: (c i).ps := by rw [e]
      rw [hps]
      refine ⟨fun q => ?_, ?_⟩
      · rw [List.mem_cons, h1]
        constructor
        · rintro (rfl | ⟨j, hj, hl, hq⟩)
          · refine ⟨i, by omega, hlaid, fun e' r' he hr' hc' => ?_⟩
            cases hb : bit r'.bef i with
            | false => rfl
            | true => have := bit_lt (h.lt e' r' hr') hb; omega
          · refine ⟨j, by omega, hl, fun e' r' he hr' hc' => ?_⟩
            by_cases hei : e' = i
            · subst hei; rw [hr] at hr'; cases hr'; rw [hc] at hc'; cases hc'
            · exact hq e' r' (by omega) hr' hc'
        · rintro ⟨j, hj, hl, hq⟩
          by_cases hji : j = i
          · subst hji
            left
            obtain ⟨_, _, _, hps', _⟩ := hl.next h
            rw [hps] at hps'
            exact (List.cons.inj hps').1.symm
          · exact .inr ⟨j, by omega, hl, fun e' r' he => hq e' r' (by omega)⟩
      · refine List.pairwise_cons.2 ⟨fun q hq => ?_, h2⟩
        obtain ⟨j, hj, hl, _⟩ := (h1 q).1 hq
        exact hlaid.apart h hl (by omega)
    · exact same (by rw [e]) (by rw [hc]; simp) fun q hl => by
        obtain ⟨⟨r', v, hr', _, hw', _⟩, _⟩ := hl
        rw [hr] at hr'; cases hr'; rw [hw] at hw'; cases hw'
    · have hps : (c (i + 1)).ps = (c i).ps.filter (fun p => !bit r.bef p.i) := by rw [e]
      rw [hps]
      refine ⟨fun q => ?_, h2.filter _⟩
      rw [List.mem_filter, h1]
      constructor
      · rintro ⟨⟨j, hj, hl, hq⟩, hb⟩
        refine ⟨j, by omega, hl, fun e' r' he hr' hc' => ?_⟩
        by_cases hei : e' = i
        · subst hei; rw [hr] at hr'; cases hr'; rw [hl.i] at hb; simpa using hb
        · exact hq e' r' (by omega) hr' hc'
      · rintro ⟨j, hj, hl, hq⟩
        have hji : j ≠ i := fun e => by
          subst e
          obtain ⟨⟨r', v, hr', hc', _⟩, _⟩ := hl
          rw [hr] at hr'; cases hr'; rw [hc] at hc'; cases hc'
        refine ⟨⟨j, by omega, hl, fun e' r' he => hq e' r' (by omega)⟩, ?_⟩
        rw [hl.i]
        have := hq i r (by omega) hr (by rw [hc]; rfl)
        simpa using this
    · exact same (by rw [e]) (by rcases hc with hc | hc <;> (rw [hc]; simp)) fun q hl => by
        obtain ⟨⟨r', v, hr', hc', _⟩, _⟩ := hl
        rw [hr] at hr'; cases hr'; rw [hc'] at hc; rcases hc with hc | hc <;> cases hc

end
end Go.Am

namespace Go.Am
open Go
variable {Λ : LB}

theorem commit_get (pr : Pend → Bool) (id : Nat) : ∀ (ps : List Pend) (S : AS), (∀ q, q ∈ ps → pr q = true → q.id ≠ id) → (commit pr ps S).h.get id = S.h.get id := by
  intro ps
  induction ps with
  | nil => intro S _; rfl
  | cons x ps ih =>
    intro S h
    have hun : commit pr (x :: ps) S = commit pr ps (cond (pr x) ⟨S.h.set x.id x.obj, S.next⟩ S) := rfl
    rw [hun, ih _ (fun q hq => h q (by simp [hq]))]
    cases hx : pr x with
    | false => rfl
    | true =>
      simp only [cond_true]
      exact get_set_ne _ _ (fun e => h x (by simp) hx e.symm)
theorem countL_eq {α : Type} (p : α → Bool) : ∀ (l : List α), countL p l = l.countP p := by
  intro l
  induction l with
  | nil => rfl
  | cons x l ih =>
    show cond (p x) (Nat.succ (countL p l)) (countL p l) = _
    rw [List.countP_cons, ih]
    cases p x <;> simp
theorem revL_eq {α : Type} (l : List α) : revL l = l.reverse := by
  have gen : ∀ (l a : List α), (List.rec (motive := fun _ => List α → List α) (fun a => a) (fun x _ ih a => ih (x :: a)) l) a = l.reverse ++ a := by
    intro l
    induction l with
    | nil => intro a; rfl
    | cons x l ih => intro a; refine (ih _).trans ?_; simp
  exact (gen l []).trans (by simp)

theorem PendOk.reserve {ρ : Rho} {S : AS} {w w' : World} {B id : Nat} {o' : Obj} {pl : Pl} {p : Pend} (hp : PendOk ρ S w B p) (_hR : R Λ ρ S w) (hg : Grew o' w w') (hr : ∀ g, ρ id g = Option.none) (hn : S.h.get id = Option.none) (hne : p.id ≠ id) :
    PendOk (put ρ id 0 pl) S w' B p := by
  obtain ⟨hn0, hlt, pl0, o0, p1, p2, p3, p4, p5, p6, p7⟩ := hp
  have hs : pl0.b < w.heap.size := (Array.getElem?_eq_some_iff.1 p4).1
  refine ⟨hn0, hlt, pl0, o0, by rw [put_ne _ _ (fun e => hne e.1)]; exact p1, fun g hg' => by rw [put_ne _ _ (fun e => hne e.1)]; exact p2 g hg', p3, (hg.old _ hs).trans p4, p5.mono (put_ext pl (hr 0)), ?_, p7⟩
  rintro ⟨i, o, g, p', ho, hp', he⟩
  have hi : i ≠ id := fun e => by subst e; rw [hn] at ho; cases ho
  rw [put_ne _ _ (fun e => hi e.1)] at hp'
  exact p6 ⟨i, o, g, p', ho, hp', he⟩

def Comm (rows : List Row) (j m : Nat) : Prop := ∃ (e : Nat) (r : Row), rows[e]? = some r ∧ isEff r.cls = true ∧ lev rows e < m ∧ bit r.bef j = true
theorem Comm.mono {rows : List Row} {j m m' : Nat} (h : Comm rows j m) (hm : m ≤ m') : Comm rows j m' := by
  obtain ⟨e, r, h1, h2, h3, h4⟩ := h; exact ⟨e, r, h1, h2, by omega, h4⟩

structure Inv (Λ : LB) (cx : Cx) (ops : List Oper) (rows : List Row) (c : Nat → Cfg) (ρ0 : Rho) (S0 : AS) (w0 : World) (L : Nat → Prop) (m : Nat) (Fs : Fr) (ρ : Rho) (S : AS) (w : World) (a : Act) : Prop where
  lo : Λ.w.heap.size ≤ w0.heap.size
  st : (snapsL rows c)[m]? = some S
  lv : ∀ (i : Nat) (r : Row), rows[i]? = some r → isEff r.cls = true → (L i ↔ lev rows i < m)
  down : ∀ (i : Nat) (r : Row) (j : Nat), rows[i]? = some r → L i → bit r.bef j = true → L j
  R : R Λ ρ S w
  F : FRel ρ Fs a
  ag : Agree rows c L Fs
  kp : Kp ρ0 S0 w0 ρ S w
  pend : ∀ (j : Nat) (q : Pend), Laid cx ops rows c j q → ¬ Comm rows j m → S.h.get q.id = none ∧ q.id < S.next ∧ (L j → PendOk ρ S w w0.heap.size q) ∧ (¬ L j → ∀ g, ρ q.id g = none)
  sep : ∀ (j j' : Nat) (q q' : Pend) (x y : Pl), j ≠ j' → Laid cx ops rows c j q → Laid cx ops rows c j' q' → ¬ Comm rows j m → ¬ Comm rows j' m → ρ q.id 0 = some x → ρ q'.id 0 = some y → x.b ≠ y.b

section
variable {cx : Cx} {K : CallK} {ops : List Oper} {rows : List Row} {c : Nat → Cfg} {ρ0 : Rho} {S0 : AS} {w0 : World} {L L' : Nat → Prop} {m : Nat} {Fs : Fr} {ρ : Rho} {S : AS} {w : World} {a : Act}

/-- What only gives a value. -/
theorem Inv.value (h : Run cx K ops rows c) (hv : Inv Λ cx ops rows c ρ0 S0 w0 L m Fs ρ S w a) {i : Nat} {r : Row} (hr : rows[i]? = some r) (hn : ¬ L i) (hb : ∀ j, bit r.bef j = true → L j)
    (hL : ∀ j, L' j ↔ L j ∨ j = i) (he : isEff r.cls = false) (hno : ∀ q, ¬ Laid cx ops rows c i q) {v : AV} (hF : (c (i + 1)).F = putD (c i).F r.o.dst v) {ρ' : Rho} {w' : World} {x : Value}
    (hx : VRel ρ' v x) (hR : Go.Am.R Λ ρ' S w') (hk : Kp ρ S w ρ' S w') : Inv Λ cx ops rows c ρ0 S0 w0 L' m (putD Fs r.o.dst v) ρ' S w' (a.put r.o.dst x) := by
  refine ⟨hv.lo, hv.st, fun j q hq hj => ?_, fun j q k hq hj hb' => ?_, hR, (hv.F.mono hk.ext).put _ hx, h.put hv.ag hr hn hF hL, hv.kp.trans hk, fun j q hl hc => ?_, fun j j' q q' x y hne hl hl' hc hc' h1 h2 => ?_⟩
  · rw [hL, ← hv.lv j q hq hj]
    constructor
    · rintro (h1 | rfl)
      · exact h1
      · rw [hr] at hq; cases hq; rw [he] at hj; cases hj
    · exact .inl
  · rw [hL] at hj ⊢
    rcases hj with hj | rfl
    · exact .inl (hv.down j q k hq hj hb')
    · rw [hr] at hq; cases hq; exact .inl (hb k hb')
  · obtain ⟨p1, p2, p3, p4⟩ := hv.pend j q hl hc
    have hji : j ≠ i := fun e => by subst e; exact hno q hl
    refine ⟨p1, p2, fun hj => ?_, fun hj g => ?_⟩
    · rw [hL] at hj
      exact (p3 (hj.resolve_right hji)).carry hk
    · rw [(hk.resv q.id g p2 p1).1]
      exact p4 (fun h1 => hj ((hL j).2 (.inl h1))) g
  · obtain ⟨p1, p2, _⟩ := hv.pend j q hl hc
    obtain ⟨p1', p2', _⟩ := hv.pend j' q' hl' hc'
    rw [(hk.resv q.id 0 p2 p1).1] at h1
    rw [(hk.resv q'.id 0 p2' p1').1] at h2
    exact hv.sep j j' q q' x y hne hl hl' hc hc' h1 h2

/-- A block is laid. -/
theorem Inv.lay (h : Run cx K ops rows c) (hv : Inv Λ cx ops rows c ρ0 S0 w0 L m Fs ρ S w a) {i : Nat} {r : Row} (hr : rows[i]? = some r) (hn : ¬ L i) (hb : ∀ j, bit r.bef j = true → L j)
    (hL : ∀ j, L' j ↔ L j ∨ j = i) (he : isEff r.cls = false) {p : Pend} (hp : Laid cx ops rows c i p) (hid : S0.next ≤ p.id) {v : AV} (hF : (c (i + 1)).F = putD (c i).F r.o.dst v) {w' : World} {o' : Obj} {x : Value} (hg : Grew o' w w') (ho : ObjRel ρ p.obj o')
    (hx : ∀ ρ' pl, ρ' p.id 0 = some pl → PlRel w.heap.size pl p.obj o' → VRel ρ' v x) {pl : Pl} (hpl : PlRel pl.b pl p.obj o') (hplb : pl.b = w.heap.size) :
    Inv Λ cx ops rows c ρ0 S0 w0 L' m (putD Fs r.o.dst v) (put ρ p.id 0 pl) S w' (a.put r.o.dst x) := by
  have hnc : ¬ Comm rows i m := by
    rintro ⟨e, q, h1, h2, h3, h4⟩
    exact hn (hv.down e q i h1 ((hv.lv e q h1 h2).2 h3) h4)
  obtain ⟨p1, p2, _, p4'⟩ := hv.pend i p hp hnc
  have p5 := p4' hn
  clear p4'
  have hext := put_ext pl (p5 0)
  refine ⟨hv.lo, hv.st, fun j q hq hj => ?_, fun j q k hq hj hb' => ?_, hv.R.reserve hg p5 p1 p2, (hv.F.mono hext).put _ (hx _ pl (put_same _ _ _ _) (hplb ▸ hpl)), h.put hv.ag hr hn hF hL, hv.kp.reserve hg p5 p1 hid, fun j q hl hc => ?_, fun j j' q q' y z hne hl hl' hc hc' h1 h2 => ?_⟩
  · rw [hL, ← hv.lv j q hq hj]
    constructor
    · rintro (h1 | rfl)
      · exact h1
      · rw [hr] at hq; cases hq; rw [he] at hj; cases hj
    · exact .inl
  · rw [hL] at hj ⊢
    rcases hj with hj | rfl
    · exact .inl (hv.down j q k hq hj hb')
    · rw [hr] at hq; cases hq; exact .inl (hb k hb')
  · by_cases hji : j = i
    · subst hji
      obtain rfl : q = p := by
        obtain ⟨_, _, _, e1, _⟩ := hl.next h
        obtain ⟨_, _, _, e2, _⟩ := hp.next h
        rw [e1] at e2; exact (List.cons.inj e2).1
      refine ⟨p1, p2, fun _ => ⟨p1, p2, pl, o', put_same _ _ _ _, fun g hg' => by rw [put_ne _ _ (fun e => hg' e.2)]; exact p5 g, hpl, by rw [hplb]; exact hg.at, ho.mono hext, ?_, by rw [hplb]; exact hv.kp.size⟩, fun hj => absurd ((hL j).2 (.inr rfl)) hj⟩
      rintro ⟨k, o, g, pl', hk, hp', he'⟩
      have hki : k ≠ q.id := fun e => by subst e; rw [p1] at hk; cases hk
      rw [put_ne _ _ (fun e => hki e.1)] at hp'
      have := hv.R.lt k o g pl' hk hp'
      omega
    · obtain ⟨q1, q2, q3, q4⟩ := hv.pend j q hl hc
      have hne := hl.apart h hp hji
      refine ⟨q1, q2, fun hj => ?_, fun hj g => ?_⟩
      · rw [hL] at hj
        exact (q3 (hj.resolve_right hji)).reserve hv.R hg p5 p1 hne
      · rw [put_ne _ _ (fun e => hne e.1)]
        exact q4 (fun h1 => hj ((hL j).2 (.inl h1))) g
  · have old : ∀ (k : Nat) (q : Pend) (y : Pl), Laid cx ops rows c k q → ¬ Comm rows k m → ρ q.id 0 = some y → y.b < w.heap.size := by
      intro k q y hl hc h1
      obtain ⟨_, _, q3, q4⟩ := hv.pend k q hl hc
      by_cases hk : L k
      · obtain ⟨_, _, pl0, o0, e1, _, _, e4, _⟩ := q3 hk
        rw [e1] at h1; cases h1
        exact (Array.getElem?_eq_some_iff.1 e4).1
      · rw [q4 hk 0] at h1; cases h1
    by_cases hji : j = i
    · subst hji
      have e1 : q = p := by
        obtain ⟨_, _, _, e1, _⟩ := hl.next h
        obtain ⟨_, _, _, e2, _⟩ := hp.next h
        rw [e1] at e2; exact (List.cons.inj e2).1
      subst e1
      rw [put_same] at h1; cases h1
      have hne' := hl'.apart h hl (fun e => hne e.symm)
      rw [put_ne _ _ (fun e => hne' e.1)] at h2
      have := old j' q' z hl' hc' h2
      omega
    · have hne1 := hl.apart h hp hji
      rw [put_ne _ _ (fun e => hne1 e.1)] at h1
      by_cases hji' : j' = i
      · subst hji'
        have e1 : q' = p := by
          obtain ⟨_, _, _, e1, _⟩ := hl'.next h
          obtain ⟨_, _, _, e2, _⟩ := hp.next h
          rw [e1] at e2; exact (List.cons.inj e2).1
        subst e1
        rw [put_same] at h2; cases h2
        have := old j q y hl hc h1
        omega
      · have hne2 := hl'.apart h hp hji'
        rw [put_ne _ _ (fun e => hne2 e.1)] at h2
        exact hv.sep j j' q q' y z hne hl hl' hc hc' h1 h2

/-- What acts: its level is the one at hand. -/
theorem Inv.level (h : Run cx K ops rows c) (hv : Inv Λ cx ops rows c ρ0 S0 w0 L m Fs ρ S w a) {i : Nat} {r : Row} (hr : rows[i]? = some r) (hn : ¬ L i) (hb : ∀ j, bit r.bef j = true → L j) (he : isEff r.cls = true) : lev rows i = m := by
  have h1 : ¬ lev rows i < m := fun h1 => hn ((hv.lv i r hr he).2 h1)
  rcases lev_last (rows := rows) i with h2 | ⟨e, q, h2, h3, h4, h5⟩
  · omega
  · have := (hv.lv e q h3 h4).1 (hb e (h.tot e i q r h3 hr h4 he h2))
    omega

/-- The blocks that wait and are known to stand. -/
theorem Inv.commit (h : Run cx K ops rows c) (hp0 : (c 0).ps = []) (hid : (c 0).id = S0.next) (hv : Inv Λ cx ops rows c ρ0 S0 w0 L m Fs ρ S w a) {i : Nat} (hi : i ≤ rows.length) (hm : lev rows i = m) (pr : Pend → Bool)
    (hpr : ∀ (j : Nat) (q : Pend), q.i = j → pr q = true → Laid cx ops rows c j q → L j) :
    Go.Am.R Λ ρ (commit pr (c i).ps S) w ∧ Kp ρ0 S0 w0 ρ (commit pr (c i).ps S) w ∧ (Go.Am.commit pr (c i).ps S).next = S.next ∧
      (∀ (j : Nat) (p : Pend), Laid cx ops rows c j p → ¬ Comm rows j m → pr p = false → (Go.Am.commit pr (c i).ps S).h.get p.id = none ∧ (L j → PendOk ρ (Go.Am.commit pr (c i).ps S) w w0.heap.size p)) := by
  obtain ⟨hw1, hw2⟩ := h.waits hp0 i hi
  have unc : ∀ q, q ∈ (c i).ps → ∃ j, Laid cx ops rows c j q ∧ ¬ Comm rows j m := by
    intro q hq
    obtain ⟨j, hj, hl, hn⟩ := (hw1 q).1 hq
    refine ⟨j, hl, ?_⟩
    rintro ⟨e, r, h1, h2, h3, h4⟩
    rw [← hm] at h3
    have := hn e r ((lev_lt h1 h2).2 h3) h1 h2
    rw [this] at h4; cases h4
  obtain ⟨c1, c2, c3, c4⟩ := commit_ok (ρ0 := ρ0) (S0 := S0) (w0 := w0) hv.lo pr (c i).ps S hv.R hv.kp (fun q hq hp => by
      obtain ⟨j, hl, hn⟩ := unc q hq
      obtain ⟨_, _, p3, _⟩ := hv.pend j q hl hn
      exact ⟨p3 (hpr j q hl.i hp hl), by rw [← hid]; exact (hl.top h).1⟩) hw2 (fun p q x y hp _ hq _ hne h1 h2 => by
      obtain ⟨j, hl, hn⟩ := unc p hp
      obtain ⟨j', hl', hn'⟩ := unc q hq
      exact hv.sep j j' p q x y (fun e => hne (by rw [hl.id, hl'.id, e])) hl hl' hn hn' h1 h2)
  refine ⟨c1, c2, c3, fun j p hl hn hpf => ?_⟩
  obtain ⟨p1, p2, p3, p4⟩ := hv.pend j p hl hn
  have hne : ∀ q, q ∈ (c i).ps → pr q = true → q.id ≠ p.id := by
    intro q hq hpq e
    obtain ⟨j', hl', hn'⟩ := unc q hq
    by_cases hjj : j' = j
    · subst hjj
      obtain ⟨_, _, _, e1, _⟩ := hl'.next h
      obtain ⟨_, _, _, e2, _⟩ := hl.next h
      rw [e1] at e2
      have := (List.cons.inj e2).1
      subst this
      rw [hpf] at hpq; cases hpq
    · exact hl'.apart h hl hjj e
  refine ⟨by rw [commit_get _ _ _ _ hne]; exact p1, fun hj => c4 p (p3 hj) fun q hq hpq => ⟨fun e => hne q hq hpq e.symm, fun x y h1 h2 => ?_⟩⟩
  obtain ⟨j', hl', hn'⟩ := unc q hq
  exact hv.sep j j' p q x y (fun e => hne q hq hpq (by rw [hl.id, hl'.id, e])) hl hl' hn hn' h1 h2

/-- What acts, done. -/
theorem Inv.act (h : Run cx K ops rows c) (hs0 : (c 0).snaps = []) (hp0 : (c 0).ps = []) (hid : (c 0).id = S0.next) (hv : Inv Λ cx ops rows c ρ0 S0 w0 L m Fs ρ S w a) {i : Nat} {r : Row} (hr : rows[i]? = some r) (hn : ¬ L i) (hb : ∀ j, bit r.bef j = true → L j)
    (hL : ∀ j, L' j ↔ L j ∨ j = i) (he : isEff r.cls = true) {v : AV} (hF : (c (i + 1)).F = putD (c i).F r.o.dst v) {ρ' : Rho} {w' : World} {x : Value}
    (hx : VRel ρ' v x) (hR : Go.Am.R Λ ρ' (c (i + 1)).S w') (hk : Kp ρ (Go.Am.commit (fun p => bit r.bef p.i) (c i).ps S) w ρ' (c (i + 1)).S w') :
    Inv Λ cx ops rows c ρ0 S0 w0 L' (m + 1) (putD Fs r.o.dst v) ρ' (c (i + 1)).S w' (a.put r.o.dst x) := by
  have hm := hv.level h hr hn hb he
  have hi := row_lt hr
  obtain ⟨c1, c2, c3, c4⟩ := hv.commit h hp0 hid (Nat.le_of_lt hi) hm (fun p => bit r.bef p.i) (fun j q e hp _ => by subst e; exact hb _ hp)
  have hlev : lev rows (i + 1) = m + 1 := by rw [lev_succ hr, if_pos he, hm]
  have out : ∀ (j : Nat) (q : Pend), Laid cx ops rows c j q → ¬ Comm rows j (m + 1) → ¬ Comm rows j m ∧ bit r.bef q.i = false := by
    intro j q hl hc
    refine ⟨fun h1 => hc (h1.mono (Nat.le_succ _)), ?_⟩
    cases hbq : bit r.bef q.i with
    | false => rfl
    | true => exact absurd ⟨i, r, hr, he, by omega, by rw [← hl.i]; exact hbq⟩ hc
  refine ⟨hv.lo, by rw [← hlev]; exact h.snap hs0 hi, fun j q hq hj => ?_, fun j q k hq hj hb' => ?_, hR, (hv.F.mono hk.ext).put _ hx, h.put hv.ag hr hn hF hL, c2.trans hk, fun j q hl hc => ?_, fun j j' q q' x y hne hl hl' hc hc' h1 h2 => ?_⟩
  · rw [hL, hv.lv j q hq hj]
    constructor
    · rintro (h1 | rfl) <;> omega
    · intro h1
      by_cases h2 : lev rows j < m
      · exact .inl h2
      · right
        rcases Nat.lt_trichotomy j i with h3 | h3 | h3
        · have := (lev_lt (i := i) hq hj).1 h3; omega
        · exact h3
        · have := (lev_lt (i := j) hr he).1 h3; omega
  · rw [hL] at hj ⊢
    rcases hj with hj | rfl
    · exact .inl (hv.down j q k hq hj hb')
    · rw [hr] at hq; cases hq; exact .inl (hb k hb')
  · obtain ⟨o1, o2⟩ := out j q hl hc
    obtain ⟨p1, p2, p3, p4⟩ := hv.pend j q hl o1
    obtain ⟨q1, q2⟩ := c4 j q hl o1 o2
    have hji : j ≠ i := fun e => by
      subst e
      obtain ⟨⟨r', v', hr', hc', _⟩, _⟩ := hl
      rw [hr] at hr'; cases hr'; rw [hc'] at he; cases he
    have hlt : q.id < (Go.Am.commit (fun p => bit r.bef p.i) (c i).ps S).next := by rw [c3]; exact p2
    refine ⟨(hk.resv q.id 0 hlt q1).2, Nat.lt_of_lt_of_le hlt hk.next, fun hj => ?_, fun hj g => ?_⟩
    · rw [hL] at hj
      exact (q2 (hj.resolve_right hji)).carry hk
    · rw [(hk.resv q.id g hlt q1).1]
      exact p4 (fun h1 => hj ((hL j).2 (.inl h1))) g
  · obtain ⟨o1, o2⟩ := out j q hl hc
    obtain ⟨o1', o2'⟩ := out j' q' hl' hc'
    obtain ⟨_, p2, _⟩ := hv.pend j q hl o1
    obtain ⟨_, p2', _⟩ := hv.pend j' q' hl' o1'
    obtain ⟨q1, _⟩ := c4 j q hl o1 o2
    obtain ⟨q1', _⟩ := c4 j' q' hl' o1' o2'
    rw [(hk.resv q.id 0 (by rw [c3]; exact p2) q1).1] at h1
    rw [(hk.resv q'.id 0 (by rw [c3]; exact p2') q1').1] at h2
    exact hv.sep j j' q q' x y hne hl hl' o1 o1' h1 h2

end
end Go.Am
