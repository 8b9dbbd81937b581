/-
  The abstract machine: the run of a region that draws its order. Frames, levels, numbers: plain facts.
-/
import Derived.Test.YtgeghppdhjlbiaaGreatDoorAmTrace
namespace Go.Am
open Go

structure Run (cx : Cx) (K : CallK) (ops : List Oper) (rows : List Row) (c : Nat → Cfg) : Prop where
  step : ∀ (i : Nat) (r : Row), rows[i]? = some r → StepR cx K ops r (c i) (c (i + 1))
  num : ∀ (i : Nat) (r : Row), rows[i]? = some r → r.i = i
  lt : ∀ (i : Nat) (r : Row), rows[i]? = some r → r.bef < 2 ^ i
  tot : ∀ (i j : Nat) (r q : Row), rows[i]? = some r → rows[j]? = some q → isEff r.cls = true → isEff q.cls = true → i < j → bit q.bef i = true
  sees : ∀ (i j : Nat) (r q : Row) (d : Nat), rows[i]? = some r → rows[j]? = some q → r.o.dst = some d → d ∈ seesL ops q.o → bit q.bef i = true ∨ (bit r.bef j = true ∧ isRead q.cls = false)
  single : ∀ (i j : Nat) (r q : Row) (d : Nat), rows[i]? = some r → rows[j]? = some q → r.o.dst = some d → q.o.dst = some d → i = j

theorem isEff_iff {c : Cls} : isEff c = true ↔ c = .eff := by cases c <;> simp [isEff]
theorem isFresh_iff {c : Cls} : isFresh c = true ↔ c = .fresh := by cases c <;> simp [isFresh]
theorem isRead_iff {c : Cls} : isRead c = true ↔ c = .read := by cases c <;> simp [isRead]

theorem putD_n (F : Fr) (dst : Option Tmp) (v : AV) : (putD F dst v).n = F.n := by
  cases dst with
  | none => rfl
  | some d => rw [putD_some]; cases Nat.blt d F.n <;> rfl
theorem putD_ds (F : Fr) (dst : Option Tmp) (v : AV) : (putD F dst v).ds = F.ds := by
  cases dst with
  | none => rfl
  | some d => rw [putD_some]; cases Nat.blt d F.n <;> rfl
theorem putD_ne {F : Fr} {dst : Option Tmp} {v : AV} {t : Nat} (h : dst ≠ some t) : (putD F dst v).t.get t = F.t.get t := by
  cases dst with
  | none => rfl
  | some d =>
    rw [putD_some]
    cases Nat.blt d F.n with
    | false => rfl
    | true => exact get_set_ne _ _ (fun e => h (by rw [e]))
theorem putD_same {F : Fr} {v : AV} {t : Nat} : (putD F (some t) v).t.get t = if t < F.n then some v else F.t.get t := by
  rw [putD_some]
  by_cases h : t < F.n
  · have : Nat.blt t F.n = true := by simpa using h
    rw [this, if_pos h]; exact get_set_same _ _ _
  · have : Nat.blt t F.n = false := by
      cases hb : Nat.blt t F.n with
      | false => rfl
      | true => exact absurd (by simpa using hb) h
    rw [this, if_neg h]; rfl

theorem stepF {cx : Cx} {K : CallK} {ops : List Oper} {r : Row} {c c' : Cfg} (h : StepR cx K ops r c c') : ∃ v, c'.F = putD c.F r.o.dst v := by
  rcases h with ⟨_, ⟨_, v, x, _, rfl⟩ | ⟨_, rfl⟩⟩ | ⟨_, v, S2, _, rfl⟩ | ⟨_, v, _, rfl⟩ <;> exact ⟨_, rfl⟩

section
variable {cx : Cx} {K : CallK} {ops : List Oper} {rows : List Row} {c : Nat → Cfg}

theorem row_at {i : Nat} (h : i < rows.length) : ∃ r, rows[i]? = some r := ⟨rows[i], List.getElem?_eq_getElem h⟩
theorem row_lt {i : Nat} {r : Row} (h : rows[i]? = some r) : i < rows.length := by
  rcases Nat.lt_or_ge i rows.length with h1 | h1
  · exact h1
  · rw [List.getElem?_eq_none h1] at h; cases h

theorem Run.n (h : Run cx K ops rows c) : ∀ i, i ≤ rows.length → (c i).F.n = (c 0).F.n := by
  intro i
  induction i with
  | zero => intro _; rfl
  | succ i ih =>
    intro hi
    obtain ⟨r, hr⟩ := row_at hi
    obtain ⟨v, hv⟩ := stepF (h.step i r hr)
    rw [hv, putD_n]; exact ih (by omega)
theorem Run.ds (h : Run cx K ops rows c) : ∀ i, i ≤ rows.length → (c i).F.ds = (c 0).F.ds := by
  intro i
  induction i with
  | zero => intro _; rfl
  | succ i ih =>
    intro hi
    obtain ⟨r, hr⟩ := row_at hi
    obtain ⟨v, hv⟩ := stepF (h.step i r hr)
    rw [hv, putD_ds]; exact ih (by omega)
theorem Run.keep (h : Run cx K ops rows c) {t : Nat} {i : Nat} : ∀ j, i ≤ j → j ≤ rows.length → (∀ (k : Nat) (r : Row), i ≤ k → k < j → rows[k]? = some r → r.o.dst ≠ some t) → (c j).F.t.get t = (c i).F.t.get t := by
  intro j
  induction j with
  | zero => intro h1 _ _; have : i = 0 := by omega
            subst this; rfl
  | succ j ih =>
    intro h1 h2 h3
    by_cases hij : i = j + 1
    · subst hij; rfl
    · obtain ⟨r, hr⟩ := row_at (rows := rows) h2
      obtain ⟨v, hv⟩ := stepF (h.step j r hr)
      rw [hv, putD_ne (h3 j r (by omega) (by omega) hr)]
      exact ih (by omega) (by omega) fun k r hk1 hk2 => h3 k r hk1 (by omega)

def Writes (rows : List Row) (t i : Nat) : Prop := ∃ r, rows[i]? = some r ∧ r.o.dst = some t
structure Agree (rows : List Row) (c : Nat → Cfg) (L : Nat → Prop) (F : Fr) : Prop where
  n : F.n = (c 0).F.n
  ds : F.ds = (c 0).F.ds
  yes : ∀ t i, Writes rows t i → L i → F.t.get t = (c rows.length).F.t.get t
  no : ∀ t, (∀ i, Writes rows t i → ¬ L i) → F.t.get t = (c 0).F.t.get t

theorem Run.now (h : Run cx K ops rows c) {L : Nat → Prop} {F : Fr} (ha : Agree rows c L F) {i : Nat} {r : Row} (hr : rows[i]? = some r) (hL : ∀ j, bit r.bef j = true → L j) (hno : isRead r.cls = true ∨ ∀ (k : Nat) (q : Row), rows[k]? = some q → bit q.bef i = true → ¬ L k) {t : Nat} (ht : t ∈ seesL ops r.o) :
    F.t.get t = (c i).F.t.get t := by
  have hi := row_lt hr
  by_cases hw : ∃ j, Writes rows t j
  · obtain ⟨j, q, hq, hd⟩ := hw
    rcases h.sees j i q r t hq hr hd ht with hb | ⟨hb, hrd⟩
    · have hj := bit_lt (h.lt i r hr) hb
      rw [ha.yes t j ⟨q, hq, hd⟩ (hL j hb)]
      refine h.keep _ (Nat.le_of_lt hi) (Nat.le_refl _) fun k q' hk1 _ hk hd' => ?_
      have := h.single j k q q' t hq hk hd hd'
      omega
    · have hj := bit_lt (h.lt j q hq) hb
      have hnj : ¬ L j := by
        rcases hno with h1 | h1
        · rw [h1] at hrd; cases hrd
        · exact h1 j q hq hb
      rw [ha.no t fun k hk hLk => by
        obtain ⟨q', hq', hd'⟩ := hk
        have := h.single j k q q' t hq hq' hd hd'
        subst this; exact hnj hLk]
      exact (h.keep i (Nat.zero_le _) (Nat.le_of_lt hi) fun k q' _ hk2 hk hd' => by
        have := h.single j k q q' t hq hk hd hd'; omega).symm
  · rw [ha.no t fun j hj _ => hw ⟨j, hj⟩]
    exact (h.keep i (Nat.zero_le _) (Nat.le_of_lt hi) fun k q' _ _ hk hd' => hw ⟨k, q', hk, hd'⟩).symm
theorem Run.all (h : Run cx K ops rows c) : Agree rows c (fun _ => True) (c rows.length).F :=
  ⟨h.n _ (Nat.le_refl _), h.ds _ (Nat.le_refl _), fun _ _ _ _ => rfl, fun _ hw => h.keep _ (Nat.zero_le _) (Nat.le_refl _) fun k q' _ _ hk hd' => hw k ⟨q', hk, hd'⟩ trivial⟩
theorem Run.put (h : Run cx K ops rows c) {L L' : Nat → Prop} {F : Fr} (ha : Agree rows c L F) {i : Nat} {r : Row} (hr : rows[i]? = some r) (hn : ¬ L i) {v : AV} (hv : (c (i + 1)).F = putD (c i).F r.o.dst v)
    (hL : ∀ j, L' j ↔ L j ∨ j = i) : Agree rows c L' (putD F r.o.dst v) := by
  have hi := row_lt hr
  have me : ∀ t, r.o.dst = some t → (putD F r.o.dst v).t.get t = (c rows.length).F.t.get t := by
    intro t hd
    have h1 : (c rows.length).F.t.get t = (c (i + 1)).F.t.get t := h.keep _ hi (Nat.le_refl _) fun k q hk _ hq hd' => by
      have := h.single i k r q t hr hq hd hd'; omega
    rw [h1, hv, hd, putD_same, putD_same, ha.n, h.n i (Nat.le_of_lt hi)]
    split
    · rfl
    · rw [ha.no t fun j hj hLj => by
        obtain ⟨q, hq, hd'⟩ := hj
        have := h.single i j r q t hr hq hd hd'
        subst this; exact hn hLj]
      exact (h.keep i (Nat.zero_le _) (Nat.le_of_lt hi) fun k q _ hk hq hd' => by
        have := h.single i k r q t hr hq hd hd'; omega).symm
  refine ⟨by rw [putD_n]; exact ha.n, by rw [putD_ds]; exact ha.ds, fun t j hj hLj => ?_, fun t hw => ?_⟩
  · by_cases hd : r.o.dst = some t
    · exact me t hd
    · rw [putD_ne hd]
      rcases (hL j).1 hLj with h1 | h1
      · exact ha.yes t j hj h1
      · subst h1
        obtain ⟨q, hq, hd'⟩ := hj
        rw [hr] at hq; cases hq; exact absurd hd' hd
  · have hd : r.o.dst ≠ some t := fun hd => hw i ⟨r, hr, hd⟩ ((hL i).2 (.inr rfl))
    rw [putD_ne hd]
    exact ha.no t fun j hj hLj => hw j hj ((hL j).2 (.inl hLj))

/-! ### Levels -/
def lev (rows : List Row) (i : Nat) : Nat := (rows.take i).countP fun r => isEff r.cls
theorem lev_succ {i : Nat} {r : Row} (h : rows[i]? = some r) : lev rows (i + 1) = lev rows i + (if isEff r.cls then 1 else 0) := by
  unfold lev
  rw [List.take_add_one, h, List.countP_append]
  simp [List.countP_cons]
theorem lev_mono {i : Nat} : ∀ {j : Nat}, i ≤ j → lev rows i ≤ lev rows j := by
  intro j hij
  induction j with
  | zero => have : i = 0 := by omega
            subst this; exact Nat.le_refl _
  | succ j ih =>
    by_cases h : i = j + 1
    · subst h; exact Nat.le_refl _
    · have h1 := ih (by omega)
      by_cases hj : j < rows.length
      · obtain ⟨r, hr⟩ := row_at hj
        rw [lev_succ hr]; omega
      · have : lev rows (j + 1) = lev rows j := by
          unfold lev; rw [List.take_of_length_le (by omega), List.take_of_length_le (by omega)]
        omega
theorem lev_lt {e i : Nat} {r : Row} (h : rows[e]? = some r) (he : isEff r.cls = true) : e < i ↔ lev rows e < lev rows i := by
  constructor
  · intro hlt
    have := lev_mono (rows := rows) (i := e + 1) (j := i) hlt
    rw [lev_succ h, if_pos he] at this; omega
  · intro hlt
    rcases Nat.lt_or_ge e i with h1 | h1
    · exact h1
    · have := lev_mono (rows := rows) h1; omega
/-- The last that acts ahead of i. -/
theorem lev_last : ∀ i, lev rows i = 0 ∨ ∃ (e : Nat) (r : Row), e < i ∧ rows[e]? = some r ∧ isEff r.cls = true ∧ lev rows i = lev rows e + 1 := by
  intro i
  induction i with
  | zero => left; rfl
  | succ i ih =>
    by_cases hi : i < rows.length
    · obtain ⟨r, hr⟩ := row_at hi
      rw [lev_succ hr]
      cases he : isEff r.cls with
      | true => exact .inr ⟨i, r, by omega, hr, he, by simp⟩
      | false =>
        rcases ih with h | ⟨e, q, h1, h2, h3, h4⟩
        · left; simpa using h
        · exact .inr ⟨e, q, by omega, h2, h3, by simpa using h4⟩
    · have : lev rows (i + 1) = lev rows i := by
        unfold lev; rw [List.take_of_length_le (by omega), List.take_of_length_le (by omega)]
      rw [this]
      rcases ih with h | ⟨e, q, h1, h2⟩
      · exact .inl h
      · exact .inr ⟨e, q, by omega, h2⟩

/-- The memories, the first one first. -/
def full (c : Nat → Cfg) (i : Nat) : List AS := (c i).S :: (c i).snaps
theorem Run.full_len (h : Run cx K ops rows c) (h0 : (c 0).snaps = []) : ∀ i, i ≤ rows.length → (full c i).length = lev rows i + 1 := by
  intro i
  induction i with
  | zero => intro _; simp [full, h0, lev]
  | succ i ih =>
    intro hi
    obtain ⟨r, hr⟩ := row_at hi
    have h1 := ih (by omega)
    rw [lev_succ hr]
    rcases h.step i r hr with ⟨hc, ⟨_, v, x, _, e⟩ | ⟨_, e⟩⟩ | ⟨hc, v, S2, _, e⟩ | ⟨hc, v, _, e⟩
    · simp only [full, e, hc, isEff] at h1 ⊢; simpa using h1
    · simp only [full, e, hc, isEff] at h1 ⊢; simpa using h1
    · simp only [full, e, hc, isEff] at h1 ⊢; simpa using h1
    · rcases hc with hc | hc <;> (simp only [full, e, hc, isEff] at h1 ⊢; simpa using h1)
theorem Run.full_suf (h : Run cx K ops rows c) {i : Nat} : ∀ j, i ≤ j → j ≤ rows.length → ∃ pre, full c j = pre ++ full c i := by
  intro j
  induction j with
  | zero => intro h1 _; have : i = 0 := by omega
            subst this; exact ⟨[], rfl⟩
  | succ j ih =>
    intro h1 h2
    by_cases hij : i = j + 1
    · subst hij; exact ⟨[], rfl⟩
    · obtain ⟨pre, hp⟩ := ih (by omega) (by omega)
      obtain ⟨r, hr⟩ := row_at (rows := rows) h2
      rcases h.step j r hr with ⟨hc, ⟨_, v, x, _, e⟩ | ⟨_, e⟩⟩ | ⟨hc, v, S2, _, e⟩ | ⟨hc, v, _, e⟩
      · exact ⟨pre, by rw [← hp]; simp [full, e]⟩
      · exact ⟨pre, by rw [← hp]; simp [full, e]⟩
      · exact ⟨S2 :: pre, by rw [List.cons_append, ← hp]; simp [full, e]⟩
      · exact ⟨pre, by rw [← hp]; simp [full, e]⟩
def snapsL (rows : List Row) (c : Nat → Cfg) : List AS := (full c rows.length).reverse
theorem Run.snap (h : Run cx K ops rows c) (h0 : (c 0).snaps = []) {i : Nat} (hi : i ≤ rows.length) : (snapsL rows c)[lev rows i]? = some (c i).S := by
  obtain ⟨pre, hp⟩ := h.full_suf rows.length hi (Nat.le_refl _)
  have hl := h.full_len h0 i hi
  unfold snapsL
  rw [hp, List.reverse_append, List.getElem?_append_left (by rw [List.length_reverse, hl]; omega)]
  have : (full c i).reverse = (c i).snaps.reverse ++ [(c i).S] := by simp [full]
  rw [this]
  have hl2 : (c i).snaps.reverse.length = lev rows i := by
    simp only [full, List.length_cons] at hl
    rw [List.length_reverse]; omega
  rw [← hl2]; simp
theorem Run.snap_len (h : Run cx K ops rows c) (h0 : (c 0).snaps = []) : (snapsL rows c).length = lev rows rows.length + 1 := by
  unfold snapsL; rw [List.length_reverse]; exact h.full_len h0 _ (Nat.le_refl _)

/-! ### Blocks that wait -/
structure Laid (cx : Cx) (ops : List Oper) (rows : List Row) (c : Nat → Cfg) (j : Nat) (q : Pend) : Prop where
  row : ∃ r v, rows[j]? = some r ∧ r.cls = .fresh ∧ wanted ops (c j).F r.o = some true ∧ freshV cx (c j).F q.id r.o.op = some (v, q.obj)
  i : q.i = j
  id : q.id = (c j).id
theorem Run.id_le (h : Run cx K ops rows c) {i : Nat} : ∀ j, i ≤ j → j ≤ rows.length → (c i).id ≤ (c j).id := by
  intro j
  induction j with
  | zero => intro h1 _; have : i = 0 := by omega
            subst this; exact Nat.le_refl _
  | succ j ih =>
    intro h1 h2
    by_cases hij : i = j + 1
    · subst hij; exact Nat.le_refl _
    · have := ih (by omega) (by omega)
      obtain ⟨r, hr⟩ := row_at (rows := rows) h2
      rcases h.step j r hr with ⟨hc, ⟨_, v, x, _, e⟩ | ⟨_, e⟩⟩ | ⟨hc, v, S2, _, e⟩ | ⟨hc, v, _, e⟩ <;> (rw [e]; simp only []; omega)
theorem Laid.next (h : Run cx K ops rows c) {j : Nat} {q : Pend} (hl : Laid cx ops rows c j q) : (c (j + 1)).id = (c j).id + 1 ∧ j < rows.length ∧ ∃ x, (c (j + 1)).ps = q :: (c j).ps ∧ x = q := by
  obtain ⟨⟨r, v, hr, hc, hw, hf⟩, hi, hid⟩ := hl
  rcases h.step j r hr with ⟨_, ⟨_, v', x, hf', e⟩ | ⟨hw', e⟩⟩ | ⟨hc', _⟩ | ⟨hc', _⟩
  · rw [hid, hf'] at hf
    cases hf
    refine ⟨by rw [e], row_lt hr, q, ?_, rfl⟩
    rw [e]
    obtain ⟨qi, qid, qo⟩ := q
    simp only at hi hid
    subst hi hid
    rw [h.num _ r hr]
  · rw [hw] at hw'; cases hw'
  · rw [hc] at hc'; cases hc'
  · rw [hc] at hc'; rcases hc' with hc' | hc' <;> cases hc'
theorem Laid.apart (h : Run cx K ops rows c) {j j' : Nat} {q q' : Pend} (hl : Laid cx ops rows c j q) (hl' : Laid cx ops rows c j' q') (hne : j ≠ j') : q.id ≠ q'.id := by
  have h1 := hl.next h
  have h2 := hl'.next h
  rw [hl.id, hl'.id]
  rcases Nat.lt_or_ge j j' with hlt | hge
  · have := h.id_le (i := j + 1) j' hlt (by omega); omega
  · have := h.id_le (i := j' + 1) j (by omega) (by omega); omega
theorem Run.id_top (h : Run cx K ops rows c) : ∀ i, i ≤ rows.length → (c i).id ≤ (c 0).id + (rows.take i).countP (fun r => isFresh r.cls) := by
  intro i
  induction i with
  | zero => intro _; simp
  | succ i ih =>
    intro hi
    have := ih (by omega)
    obtain ⟨r, hr⟩ := row_at (rows := rows) hi
    rw [List.take_add_one, hr, List.countP_append]
    rcases h.step i r hr with ⟨hc, ⟨_, v, x, _, e⟩ | ⟨_, e⟩⟩ | ⟨hc, v, S2, _, e⟩ | ⟨hc, v, _, e⟩
    · have h1 : List.countP (fun r : Row => isFresh r.cls) (some r).toList = 1 := by simp [hc, isFresh]
      rw [e, h1]; simp only []; omega
    · rw [e]; simp only []; omega
    · rw [e]; simp only []; omega
    · rw [e]; simp only []; omega
theorem Laid.top (h : Run cx K ops rows c) {j : Nat} {q : Pend} (hl : Laid cx ops rows c j q) : (c 0).id ≤ q.id ∧ q.id < (c 0).id + rows.countP (fun r => isFresh r.cls) := by
  obtain ⟨h1, h2, _⟩ := hl.next h
  have h3 := h.id_le (i := 0) j (Nat.zero_le _) (by omega)
  have h4 := h.id_top (j + 1) h2
  have h5 : (rows.take (j + 1)).countP (fun r => isFresh r.cls) ≤ rows.countP (fun r => isFresh r.cls) := List.Sublist.countP_le (List.take_sublist _ _)
  rw [hl.id]; omega
/-- What waits at i. -/
theorem Run.waits (h : Run cx K ops rows c) (h0 : (c 0).ps = []) : ∀ i, i ≤ rows.length → (∀ q, q ∈ (c i).ps ↔ ∃ j, j < i ∧ Laid cx ops rows c j q ∧ ∀ (e : Nat) (r : Row), e < i → rows[e]? = some r → isEff r.cls = true → bit r.bef j = false) ∧
    (c i).ps.Pairwise fun p q => p.id ≠ q.id := by
  intro i
  induction i with
  | zero => intro _; rw [h0]; exact ⟨fun q => ⟨fun hq => (by cases hq), fun ⟨j, hj, _⟩ => (by omega)⟩, .nil⟩
  | succ i ih =>
    intro hi
    obtain ⟨h1, h2⟩ := ih (by omega)
    obtain ⟨r, hr⟩ := row_at (rows := rows) hi
    have same : (c (i + 1)).ps = (c i).ps → r.cls ≠ .eff → (∀ q, ¬ Laid cx ops rows c i q) → (∀ q, q ∈ (c (i + 1)).ps ↔ ∃ j, j < i + 1 ∧ Laid cx ops rows c j q ∧ ∀ (e : Nat) (r : Row), e < i + 1 → rows[e]? = some r → isEff r.cls = true → bit r.bef j = false) ∧
        (c (i + 1)).ps.Pairwise fun p q => p.id ≠ q.id := by
      intro e hc hno
      rw [e]
      refine ⟨fun q => (h1 q).trans ⟨?_, ?_⟩, h2⟩
      · rintro ⟨j, hj, hl, hq⟩
        refine ⟨j, by omega, hl, fun e' r' he hr' hc' => ?_⟩
        by_cases hei : e' = i
        · subst hei; rw [hr] at hr'; cases hr'; exact absurd (isEff_iff.1 hc') hc
        · exact hq e' r' (by omega) hr' hc'
      · rintro ⟨j, hj, hl, hq⟩
        have : j ≠ i := fun e => by subst e; exact hno q hl
        exact ⟨j, by omega, hl, fun e' r' he => hq e' r' (by omega)⟩
    rcases h.step i r hr with ⟨hc, ⟨hw, v, x, hf, e⟩ | ⟨hw, e⟩⟩ | ⟨hc, v, S2, _, e⟩ | ⟨hc, v, _, e⟩
    · have hlaid : Laid cx ops rows c i ⟨r.i, (c i).id, x⟩ := ⟨⟨r, v, hr, hc, hw, hf⟩, h.num i r hr, rfl⟩
      have hps : (c (i + 1)).ps = ⟨r.i, (c i).id, x⟩ :: (c i).ps := by rw [e]
      rw [hps]
      refine ⟨fun q => ?_, ?_⟩
      · rw [List.mem_cons, h1]
        constructor
        · rintro (rfl | ⟨j, hj, hl, hq⟩)
          · refine ⟨i, by omega, hlaid, fun e' r' he hr' hc' => ?_⟩
            cases hb : bit r'.bef i with
            | false => rfl
            | true => have := bit_lt (h.lt e' r' hr') hb; omega
          · refine ⟨j, by omega, hl, fun e' r' he hr' hc' => ?_⟩
            by_cases hei : e' = i
            · subst hei; rw [hr] at hr'; cases hr'; rw [hc] at hc'; cases hc'
            · exact hq e' r' (by omega) hr' hc'
        · rintro ⟨j, hj, hl, hq⟩
          by_cases hji : j = i
          · subst hji
            left
            obtain ⟨_, _, _, hps', _⟩ := hl.next h
            rw [hps] at hps'
            exact (List.cons.inj hps').1.symm
          · exact .inr ⟨j, by omega, hl, fun e' r' he => hq e' r' (by omega)⟩
      · refine List.pairwise_cons.2 ⟨fun q hq => ?_, h2⟩
        obtain ⟨j, hj, hl, _⟩ := (h1 q).1 hq
        exact hlaid.apart h hl (by omega)
    · exact same (by rw [e]) (by rw [hc]; simp) fun q hl => by
        obtain ⟨⟨r', v, hr', _, hw', _⟩, _⟩ := hl
        rw [hr] at hr'; cases hr'; rw [hw] at hw'; cases hw'
    · have hps : (c (i + 1)).ps = (c i).ps.filter (fun p => !bit r.bef p.i) := by rw [e]
      rw [hps]
      refine ⟨fun q => ?_, h2.filter _⟩
      rw [List.mem_filter, h1]
      constructor
      · rintro ⟨⟨j, hj, hl, hq⟩, hb⟩
        refine ⟨j, by omega, hl, fun e' r' he hr' hc' => ?_⟩
        by_cases hei : e' = i
        · subst hei; rw [hr] at hr'; cases hr'; rw [hl.i] at hb; simpa using hb
        · exact hq e' r' (by omega) hr' hc'
      · rintro ⟨j, hj, hl, hq⟩
        have hji : j ≠ i := fun e => by
          subst e
          obtain ⟨⟨r', v, hr', hc', _⟩, _⟩ := hl
          rw [hr] at hr'; cases hr'; rw [hc] at hc'; cases hc'
        refine ⟨⟨j, by omega, hl, fun e' r' he => hq e' r' (by omega)⟩, ?_⟩
        rw [hl.i]
        have := hq i r (by omega) hr (by rw [hc]; rfl)
        simpa using this
    · exact same (by rw [e]) (by rcases hc with hc | hc <;> (rw [hc]; simp)) fun q hl => by
        obtain ⟨⟨r', v, hr', hc', _⟩, _⟩ := hl
        rw [hr] at hr'; cases hr'; rw [hc'] at hc; rcases hc with hc | hc <;> cases hc

end
end Go.Am
