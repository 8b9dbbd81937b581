/-
  The abstract machine: the plan of a region that draws its order. Plain facts.
  The abstract machine: the run of a region that draws its order, step by step; blocks that are laid and wait to be known.
-/
import Derived.Test.YtpgmahedcpepkaaGreatDoorAmCall
namespace Go.Am
open Go

theorem bit_eq (m i : Nat) : bit m i = m.testBit i := by
  unfold bit
  rw [nbeq, Nat.testBit_eq_decide_div_mod_eq]
  rfl
theorem bit_lt {m i j : Nat} (h : m < 2 ^ i) (hb : bit m j = true) : j < i := by
  rw [bit_eq] at hb
  rcases Nat.lt_or_ge j i with h1 | h1
  · exact h1
  · have := Nat.testBit_lt_two_pow (Nat.lt_of_lt_of_le h (Nat.pow_le_pow_right (by decide) h1))
    rw [this] at hb; cases hb

/-- What one edge adds. -/
noncomputable def edgeM (acc : List Nat) (s : Nat) (e : Edge) : Nat :=
  match e.ground with
  | .textOnly _ => s
  | .gcOnly _ => s
  | _ => forceN (Nat.lor s (Nat.lor (Nat.pow 2 e.on) (match nth e.on acc with | some m => m | none => 0))) fun n => n
theorem edgeM_bind {acc : List Nat} {s : Nat} {e : Edge} (h : Region.binds .any e = true) : edgeM acc s e = s ||| (2 ^ e.on ||| (acc[e.on]?).getD 0) := by
  obtain ⟨on, ground⟩ := e
  have hn : (match nth on acc with | some m => m | none => 0) = (acc[on]?).getD 0 := by
    rw [nth_eq]; cases acc[on]? <;> rfl
  cases ground <;> simp only [Region.binds] at h <;> (try (cases h; done)) <;> (simp only [edgeM, forceN_eq, hn]; rfl)
theorem edgeM_skip {acc : List Nat} {s : Nat} {e : Edge} (h : Region.binds .any e = false) : edgeM acc s e = s := by
  obtain ⟨on, ground⟩ := e
  cases ground <;> first | (cases h; done) | rfl
noncomputable def befOf (acc : List Nat) (o : Oper) : Nat := o.after.toList.foldl (edgeM acc) 0

theorem fold_bits (acc : List Nat) : ∀ (es : List Edge) (s j : Nat), (es.foldl (edgeM acc) s).testBit j = true →
    s.testBit j = true ∨ ∃ e, e ∈ es ∧ Region.binds .any e = true ∧ (e.on = j ∨ ((acc[e.on]?).getD 0).testBit j = true) := by
  intro es
  induction es with
  | nil => intro s j h; exact .inl h
  | cons e es ih =>
    intro s j h
    rcases ih _ _ h with h1 | ⟨e', h1, h2, h3⟩
    · cases hb : Region.binds .any e with
      | false => rw [edgeM_skip hb] at h1; exact .inl h1
      | true =>
        rw [edgeM_bind hb, Nat.testBit_or, Nat.testBit_or, Nat.testBit_two_pow, Bool.or_eq_true, Bool.or_eq_true] at h1
        rcases h1 with h1 | h1 | h1
        · exact .inl h1
        · exact .inr ⟨e, by simp, hb, .inl (by simpa using h1)⟩
        · exact .inr ⟨e, by simp, hb, .inr h1⟩
    · exact .inr ⟨e', by simp [h1], h2, h3⟩
theorem fold_has (acc : List Nat) : ∀ (es : List Edge) (s : Nat) (j : Nat), (s.testBit j = true ∨ ∃ e, e ∈ es ∧ Region.binds .any e = true ∧ e.on = j) → (es.foldl (edgeM acc) s).testBit j = true := by
  intro es
  induction es with
  | nil => intro s j h; rcases h with h | ⟨e, h, _⟩; exact h; cases h
  | cons e es ih =>
    intro s j h
    refine ih _ _ ?_
    rcases h with h | ⟨e', h, hb, hj⟩
    · left
      cases hb : Region.binds .any e with
      | false => rw [edgeM_skip hb]; exact h
      | true => rw [edgeM_bind hb, Nat.testBit_or, h]; rfl
    · cases h with
      | head =>
        left
        rw [edgeM_bind hb, Nat.testBit_or, Nat.testBit_or, Nat.testBit_two_pow]
        simp [hj]
      | tail _ h => exact .inr ⟨e', h, hb, hj⟩

noncomputable def befFrom : List Oper → List Nat → List Nat
  | [], acc => acc
  | o :: l, acc => befFrom l (acc ++ [befOf acc o])
theorem befL_eq (ops : List Oper) : befL ops = befFrom ops [] := by
  have gen : ∀ (l : List Oper) (acc : List Nat), (List.rec (motive := fun _ => List Nat → List Nat) (fun acc => acc)
    (fun o _ ih acc => ih (appL acc [List.foldl (fun s (e : Edge) => match e.ground with
      | .textOnly _ => s
      | .gcOnly _ => s
      | _ => forceN (Nat.lor s (Nat.lor (Nat.pow 2 e.on) (match nth e.on acc with | some m => m | none => 0))) fun n => n) 0 o.after.toList])) l) acc = befFrom l acc := by
    intro l
    induction l with
    | nil => intro acc; rfl
    | cons o l ih =>
      intro acc
      refine (ih _).trans ?_
      show befFrom l _ = befFrom l (acc ++ [befOf acc o])
      rw [appL_eq]
      rfl
  exact gen ops []
theorem befFrom_spec : ∀ (l : List Oper) (acc : List Nat), ∃ B, befFrom l acc = acc ++ B ∧ B.length = l.length ∧ ∀ (i : Nat) (o : Oper), l[i]? = some o → B[i]? = some (befOf (acc ++ B.take i) o) := by
  intro l
  induction l with
  | nil => intro acc; exact ⟨[], by simp [befFrom], rfl, fun i o h => by simp at h⟩
  | cons o l ih =>
    intro acc
    obtain ⟨B, h1, h2, h3⟩ := ih (acc ++ [befOf acc o])
    refine ⟨befOf acc o :: B, by simp [befFrom, h1], by simp [h2], fun i p hp => ?_⟩
    cases i with
    | zero => simp at hp; subst hp; simp
    | succ i =>
      simp at hp
      have := h3 i p hp
      simpa using this

structure Plan (ops : Array Oper) (rows : List Row) : Prop where
  len : rows.length = ops.size
  row : ∀ (i : Nat) (r : Row), rows[i]? = some r → r.i = i ∧ ops[i]? = some r.o
  down : ∀ (i : Nat) (r : Row) (j : Nat), rows[i]? = some r → bit r.bef j = true → ∃ e, e ∈ r.o.after.toList ∧ Region.binds .any e = true ∧ (e.on = j ∨ ∃ r' : Row, rows[e.on]? = some r' ∧ bit r'.bef j = true)
  edge : ∀ (i : Nat) (r : Row) (e : Edge), rows[i]? = some r → e ∈ r.o.after.toList → Region.binds .any e = true → bit r.bef e.on = true

theorem zip_rows (cx : Cx) : ∀ (ops : List Oper) (bs : List Nat) (i0 : Nat), bs.length = ops.length →
    ∀ (i : Nat) (r : Row), ((List.rec (motive := fun _ => List Nat → Nat → List Row) (fun _ _ => [])
    (fun o _ ih bs i => List.casesOn (motive := fun _ => List Row) bs [] fun b bs => ⟨o, b, clsOf cx o, i⟩ :: ih bs (Nat.succ i)) ops) bs i0)[i]? = some r ↔
      (∃ o b, ops[i]? = some o ∧ bs[i]? = some b ∧ r = ⟨o, b, clsOf cx o, i0 + i⟩) := by
  intro ops
  induction ops with
  | nil => intro bs i0 _ i r; simp
  | cons o ops ih =>
    intro bs i0 hl i r
    cases bs with
    | nil => simp at hl
    | cons b bs =>
      cases i with
      | zero =>
        constructor
        · intro h; exact ⟨o, b, rfl, rfl, by simpa using (Option.some.inj h).symm⟩
        · rintro ⟨o', b', h1, h2, rfl⟩; simp at h1 h2; subst h1 h2; rfl
      | succ i =>
        have := ih bs (i0 + 1) (by simpa using hl) i r
        constructor
        · intro h
          obtain ⟨o', b', h1, h2, h3⟩ := this.1 h
          exact ⟨o', b', by simpa using h1, by simpa using h2, by rw [h3]; congr 1; omega⟩
        · rintro ⟨o', b', h1, h2, h3⟩
          exact this.2 ⟨o', b', by simpa using h1, by simpa using h2, by rw [h3]; congr 1; omega⟩

theorem rowsL_get (cx : Cx) (ops : List Oper) : ∃ B : List Nat, B.length = ops.length ∧ (∀ (i : Nat) (o : Oper), ops[i]? = some o → B[i]? = some (befOf (B.take i) o)) ∧
    ∀ (i : Nat) (r : Row), (rowsL cx ops)[i]? = some r ↔ ∃ o b, ops[i]? = some o ∧ B[i]? = some b ∧ r = ⟨o, b, clsOf cx o, i⟩ := by
  obtain ⟨B, h1, h2, h3⟩ := befFrom_spec ops []
  refine ⟨B, h2, fun i o h => by simpa using h3 i o h, fun i r => ?_⟩
  have hb : befL ops = B := by rw [befL_eq, h1]; simp
  have := zip_rows cx ops B 0 h2 i r
  rw [← hb] at this ⊢
  simpa [rowsL] using this

theorem settle_get (l : List Row) (i : Nat) (r : Row) (h : (settle l)[i]? = some r) : ∃ r0, l[i]? = some r0 ∧ r.o = r0.o ∧ r.bef = r0.bef ∧ r.i = r0.i ∧ (r.cls = r0.cls ∨ (r0.cls = .fresh ∧ r.cls = .eff)) := by
  unfold settle at h
  simp only [mapL_eq, List.getElem?_map] at h
  cases hl : l[i]? with
  | none => rw [hl] at h; cases h
  | some r0 =>
    rw [hl] at h
    simp only [Option.map_some, Option.some.injEq] at h
    refine ⟨r0, rfl, ?_⟩
    cases hc : (isFresh r0.cls && allL (ordered r0) (filL (fun r => isEff r.cls || isFresh r.cls) l)) with
    | false => rw [hc] at h; simp only [cond_false] at h; subst h; exact ⟨rfl, rfl, rfl, .inl rfl⟩
    | true =>
      rw [hc] at h; simp only [cond_true] at h; subst h
      simp only [Bool.and_eq_true] at hc
      refine ⟨rfl, rfl, rfl, .inr ⟨?_, rfl⟩⟩
      have := hc.1
      cases hk : r0.cls <;> rw [hk] at this <;> first | rfl | cases this
theorem settle_len (l : List Row) : (settle l).length = l.length := by
  unfold settle; simp only [mapL_eq]; simp

theorem plan_rows (cx : Cx) (ops : Array Oper) : Plan ops (settle (rowsL cx ops.toList)) ∧ ∀ (i : Nat) (r : Row), (settle (rowsL cx ops.toList))[i]? = some r → (r.cls = .pure ∨ r.cls = .read) → clsOf cx r.o = r.cls := by
  obtain ⟨B, hl, hB, hr⟩ := rowsL_get cx ops.toList
  have hlen : (rowsL cx ops.toList).length = ops.size := by
    have h1 : ∀ i, i < ops.size ↔ i < (rowsL cx ops.toList).length := by
      intro i
      constructor
      · intro h
        have ho : ops.toList[i]? = some ops.toList[i] := List.getElem?_eq_getElem (by simpa using h)
        have hiB : i < B.length := by rw [hl]; simpa using h
        have hb : B[i]? = some B[i] := List.getElem?_eq_getElem hiB
        have := (hr i _).2 ⟨_, _, ho, hb, rfl⟩
        rcases Nat.lt_or_ge i (rowsL cx ops.toList).length with h' | h'
        · exact h'
        · rw [List.getElem?_eq_none h'] at this; cases this
      · intro h
        obtain ⟨o, b, h1, _⟩ := (hr i _).1 (List.getElem?_eq_getElem h)
        rcases Nat.lt_or_ge i ops.size with h' | h'
        · exact h'
        · rw [List.getElem?_eq_none (by simpa using h')] at h1; cases h1
    have a := h1 ops.size; have b := h1 (rowsL cx ops.toList).length
    omega
  refine ⟨⟨by rw [settle_len, hlen], fun i r h => ?_, fun i r j h hb => ?_, fun i r e h he hbd => ?_⟩, fun i r h hc => ?_⟩
  · obtain ⟨r0, h0, e1, e2, e3, e4⟩ := settle_get _ _ _ h
    obtain ⟨o, b, h1, h2, rfl⟩ := (hr i r0).1 h0
    exact ⟨e3, by rw [← Array.getElem?_toList, h1, e1]⟩
  · obtain ⟨r0, h0, e1, e2, e3, e4⟩ := settle_get _ _ _ h
    obtain ⟨o, b, h1, h2, rfl⟩ := (hr i r0).1 h0
    rw [e2] at hb
    have hbb : b = befOf (B.take i) o := by have := hB i o h1; rw [h2] at this; exact Option.some.inj this
    simp only [bit_eq] at hb
    rw [hbb] at hb
    rcases fold_bits _ _ _ _ hb with h3 | ⟨e, h3, h4, h5⟩
    · simp at h3
    · refine ⟨e, by rw [e1]; exact h3, h4, ?_⟩
      rcases h5 with h5 | h5
      · exact .inl h5
      · right
        rw [List.getElem?_take] at h5
        by_cases hei : e.on < i
        · rw [if_pos hei] at h5
          cases hbe : B[e.on]? with
          | none => rw [hbe] at h5; simp at h5
          | some m =>
            rw [hbe] at h5
            have hio : i < ops.toList.length := by
              rcases Nat.lt_or_ge i ops.toList.length with h' | h'
              · exact h'
              · rw [List.getElem?_eq_none h'] at h1; cases h1
            have hoe : ops.toList[e.on]? = some ops.toList[e.on] := List.getElem?_eq_getElem (by omega)
            have hre := (hr e.on _).2 ⟨_, m, hoe, hbe, rfl⟩
            have hlt : e.on < (settle (rowsL cx ops.toList)).length := by
              rw [settle_len, hlen]; simp at hio; omega
            obtain ⟨r1, hr1, _, f2, _, _⟩ := settle_get _ e.on _ (List.getElem?_eq_getElem hlt)
            rw [hre] at hr1
            cases hr1
            exact ⟨_, List.getElem?_eq_getElem hlt, by rw [f2, bit_eq]; simpa using h5⟩
        · rw [if_neg hei] at h5; simp at h5
  · obtain ⟨r0, h0, e1, e2, e3, e4⟩ := settle_get _ _ _ h
    obtain ⟨o, b, h1, h2, rfl⟩ := (hr i r0).1 h0
    have hbb : b = befOf (B.take i) o := by have := hB i o h1; rw [h2] at this; exact Option.some.inj this
    rw [e2, bit_eq]
    show b.testBit e.on = true
    rw [hbb]
    rw [e1] at he
    exact fold_has _ _ _ _ (.inr ⟨e, he, hbd, rfl⟩)
  · obtain ⟨r0, h0, e1, e2, e3, e4⟩ := settle_get _ _ _ h
    obtain ⟨o, b, h1, h2, rfl⟩ := (hr i r0).1 h0
    rw [e1]
    rcases e4 with e4 | ⟨_, e5⟩
    · exact e4.symm
    · rw [e5] at hc; rcases hc with hc | hc <;> cases hc
end Go.Am

namespace Go.Am
open Go
variable {Λ : LB}

structure Cfg where
  F : Fr
  S : AS
  ps : List Pend
  snaps : List AS
  id : Nat

def StepR (cx : Cx) (K : CallK) (ops : List Oper) (r : Row) (c c' : Cfg) : Prop :=
  (r.cls = .fresh ∧ ((wanted ops c.F r.o = some true ∧ ∃ v x, freshV cx c.F c.id r.o.op = some (v, x) ∧ c' = ⟨putD c.F r.o.dst v, c.S, ⟨r.i, c.id, x⟩ :: c.ps, c.snaps, c.id + 1⟩) ∨
    (wanted ops c.F r.o = some false ∧ c' = ⟨putD c.F r.o.dst .undef, c.S, c.ps, c.snaps, c.id⟩))) ∨
  (r.cls = .eff ∧ ∃ v S2, one cx K ops r.o c.F (commit (fun p => bit r.bef p.i) c.ps c.S) = .ok (false, v, S2) [] ∧
    c' = ⟨putD c.F r.o.dst v, S2, c.ps.filter (fun p => !bit r.bef p.i), c.S :: c.snaps, c.id⟩) ∨
  ((r.cls = .pure ∨ r.cls = .read) ∧ ∃ v, oneV cx ops c.F c.S r.o = some v ∧ c' = ⟨putD c.F r.o.dst v, c.S, c.ps, c.snaps, c.id⟩)

theorem sole_ok {α : Type} {r : Res α} {x : α} {xs : List α} (h : Res.sole r = .ok x xs) : r = .ok x [] ∧ xs = [] := by
  cases r with
  | err n => cases h
  | ok y ys => cases ys with
    | nil => cases h; exact ⟨rfl, rfl⟩
    | cons _ _ => cases h

/-- A run's end: all rows were run, or one ended it. -/
def TraceEnd (cx : Cx) (K : CallK) (ops : List Oper) (l : List Row) (c : Nat → Cfg) (p : Option (Nat × AV × AS) × Fr × AS × List AS → Prop) : Prop :=
  ((∀ (i : Nat) (r : Row), l[i]? = some r → StepR cx K ops r (c i) (c (i + 1))) ∧ p (none, (c l.length).F, commit (fun _ => true) (c l.length).ps (c l.length).S, (c l.length).S :: (c l.length).snaps)) ∨
  ∃ (n : Nat) (r : Row) (v : AV) (S2 : AS), l[n]? = some r ∧ r.cls = .eff ∧ (∀ (i : Nat) (r : Row), i < n → l[i]? = some r → StepR cx K ops r (c i) (c (i + 1))) ∧
    one cx K ops r.o (c n).F (commit (fun p => bit r.bef p.i) (c n).ps (c n).S) = .ok (true, v, S2) [] ∧ (∀ (j : Nat) (q : Row), n < j → l[j]? = some q → bit q.bef r.i = true) ∧
    p (some (r.i, v, S2), (c n).F, (c n).S, (c n).S :: (c n).snaps)
theorem trace (cx : Cx) (K : CallK) (ops : List Oper) : ∀ (l : List Row) (c0 : Cfg) (p : Option (Nat × AV × AS) × Fr × AS × List AS → Prop), (runRows cx K ops l c0.F c0.S c0.ps c0.snaps c0.id).All p →
    ∃ c : Nat → Cfg, c 0 = c0 ∧ TraceEnd cx K ops l c p := by
  intro l
  induction l with
  | nil => intro c0 p h; exact ⟨fun _ => c0, rfl, .inl ⟨fun i r hr => by simp at hr, h.1⟩⟩
  | cons r l ih =>
    intro c0 p h
    have go : ∀ c1 : Cfg, StepR cx K ops r c0 c1 → (runRows cx K ops l c1.F c1.S c1.ps c1.snaps c1.id).All p →
        ∃ c : Nat → Cfg, c 0 = c0 ∧ TraceEnd cx K ops (r :: l) c p := by
      intro c1 hs h1
      obtain ⟨c, hc0, hc1⟩ := ih c1 p h1
      refine ⟨fun i => match i with | 0 => c0 | i + 1 => c i, rfl, ?_⟩
      rcases hc1 with ⟨hc1, hc2⟩ | ⟨n, q, v, S2, e1, e2, e3, e4, e5, e6⟩
      · refine .inl ⟨fun i r' hr => ?_, hc2⟩
        cases i with
        | zero => simp at hr; subst hr; show StepR cx K ops r c0 (c 0); rw [hc0]; exact hs
        | succ i => exact hc1 i r' (by simpa using hr)
      · refine .inr ⟨n + 1, q, v, S2, by simpa using e1, e2, fun i r' hi hr => ?_, e4, fun j q' hj hq => ?_, e6⟩
        · cases i with
          | zero => simp at hr; subst hr; show StepR cx K ops r c0 (c 0); rw [hc0]; exact hs
          | succ i => exact e3 i r' (by omega) (by simpa using hr)
        · cases j with
          | zero => omega
          | succ j => exact e5 j q' (by omega) (by simpa using hq)
    have hun : runRows cx K ops (r :: l) c0.F c0.S c0.ps c0.snaps c0.id = (match r.cls with
      | .fresh => match wanted ops c0.F r.o with
        | some true => match freshV cx c0.F c0.id r.o.op with
          | some (v, x) => runRows cx K ops l (putD c0.F r.o.dst v) c0.S (⟨r.i, c0.id, x⟩ :: c0.ps) c0.snaps (Nat.succ c0.id)
          | none => .err 1001
        | some false => runRows cx K ops l (putD c0.F r.o.dst .undef) c0.S c0.ps c0.snaps c0.id
        | none => .err 1002
      | .eff => Res.bind (Res.sole (one cx K ops r.o c0.F (commit (fun p => bit r.bef p.i) c0.ps c0.S))) fun q => cond q.1 (cond (allL (fun q => bit q.bef r.i) l) (.ok (some (r.i, q.2.1, q.2.2), c0.F, c0.S, c0.S :: c0.snaps) []) (.err 1007)) (runRows cx K ops l (putD c0.F r.o.dst q.2.1) q.2.2 (filL (fun p => !bit r.bef p.i) c0.ps) (c0.S :: c0.snaps) c0.id)
      | _ => match oneV cx ops c0.F c0.S r.o with
        | some v => runRows cx K ops l (putD c0.F r.o.dst v) c0.S c0.ps c0.snaps c0.id
        | none => .err 1006) := rfl
    rw [hun] at h
    have val : (match oneV cx ops c0.F c0.S r.o with
        | some v => runRows cx K ops l (putD c0.F r.o.dst v) c0.S c0.ps c0.snaps c0.id
        | none => .err 1006).All p → (r.cls = .pure ∨ r.cls = .read) → ∃ c : Nat → Cfg, c 0 = c0 ∧ TraceEnd cx K ops (r :: l) c p := fun h hc => by
      cases hv : oneV cx ops c0.F c0.S r.o with
      | none => rw [hv] at h; exact h.elim
      | some v =>
        rw [hv] at h
        exact go ⟨putD c0.F r.o.dst v, c0.S, c0.ps, c0.snaps, c0.id⟩ (.inr (.inr ⟨hc, v, hv, rfl⟩)) h
    cases hc : r.cls with
    | pure => rw [hc] at h; exact val h (.inl hc)
    | read => rw [hc] at h; exact val h (.inr hc)
    | fresh =>
      rw [hc] at h
      simp only [] at h
      cases hw : wanted ops c0.F r.o with
      | none => rw [hw] at h; exact h.elim
      | some b =>
        rw [hw] at h
        cases b with
        | false => exact go ⟨putD c0.F r.o.dst .undef, c0.S, c0.ps, c0.snaps, c0.id⟩ (.inl ⟨hc, .inr ⟨hw, rfl⟩⟩) h
        | true =>
          simp only [] at h
          cases hf : freshV cx c0.F c0.id r.o.op with
          | none => rw [hf] at h; exact h.elim
          | some vx =>
            rw [hf] at h
            exact go ⟨putD c0.F r.o.dst vx.1, c0.S, ⟨r.i, c0.id, vx.2⟩ :: c0.ps, c0.snaps, c0.id + 1⟩ (.inl ⟨hc, .inl ⟨hw, vx.1, vx.2, hf, rfl⟩⟩) h
    | eff =>
      rw [hc] at h
      simp only [] at h
      cases hs : Res.sole (one cx K ops r.o c0.F (commit (fun p => bit r.bef p.i) c0.ps c0.S)) with
      | err n => rw [hs] at h; exact h.elim
      | ok q qs =>
        obtain ⟨h1, rfl⟩ := sole_ok hs
        rw [hs] at h
        obtain ⟨b, v, S2⟩ := q
        cases b with
        | true =>
          cases ha : allL (fun q => bit q.bef r.i) l with
          | false =>
            have h3 : (cond (allL (fun q => bit q.bef r.i) l) (.ok (some (r.i, v, S2), c0.F, c0.S, c0.S :: c0.snaps) []) (.err 1007) : Res (Option (Nat × AV × AS) × Fr × AS × List AS)).All p := h
            rw [ha] at h3
            exact h3.elim
          | true =>
            have h3 : (cond (allL (fun q => bit q.bef r.i) l) (.ok (some (r.i, v, S2), c0.F, c0.S, c0.S :: c0.snaps) []) (.err 1007) : Res (Option (Nat × AV × AS) × Fr × AS × List AS)).All p := h
            rw [ha] at h3
            rw [allL_eq, List.all_eq_true] at ha
            refine ⟨fun _ => c0, rfl, .inr ⟨0, r, v, S2, rfl, hc, fun i _ hi => by omega, h1, fun j q hj hq => ?_, h3.1⟩⟩
            cases j with
            | zero => omega
            | succ j => exact ha q (List.mem_of_getElem? (by simpa using hq))
        | false =>
          have h3 : (runRows cx K ops l (putD c0.F r.o.dst v) S2 (filL (fun p => !bit r.bef p.i) c0.ps) (c0.S :: c0.snaps) c0.id).All p := h
          rw [filL_eq] at h3
          exact go ⟨putD c0.F r.o.dst v, S2, c0.ps.filter (fun p => !bit r.bef p.i), c0.S :: c0.snaps, c0.id⟩ (.inr (.inl ⟨hc, v, S2, h1, rfl⟩)) h3

/-! ### Blocks that are laid and not yet known -/
/-- A laid block of a number that was kept for it. -/
structure PendOk (ρ : Rho) (S : AS) (w : World) (B : Nat) (q : Pend) : Prop where
  none : S.h.get q.id = none
  lt : q.id < S.next
  laid : ∃ pl o', ρ q.id 0 = some pl ∧ (∀ g, g ≠ 0 → ρ q.id g = .none) ∧ PlRel pl.b pl q.obj o' ∧ w.heap[pl.b]? = some o' ∧ ObjRel ρ q.obj o' ∧ ¬ Mine ρ S pl.b ∧ B ≤ pl.b

theorem R.commit {ρ : Rho} {S : AS} {w : World} {B : Nat} {q : Pend} (h : R Λ ρ S w) (hq : PendOk ρ S w B q) (hB : Λ.w.heap.size ≤ B) : R Λ ρ ⟨S.h.set q.id q.obj, S.next⟩ w := by
  obtain ⟨hn, hlt, pl, o', p1, p2, p3, p4, p5, p6, p7⟩ := hq
  have hget : ∀ i, i ≠ q.id → (S.h.set q.id q.obj).get i = S.h.get i := fun i hi => get_set_ne _ _ hi
  have hob : ORel ρ w q.id q.obj := by
    obtain ⟨qi, qid, qo⟩ := q
    cases qo with
    | row cells low top frz ty =>
      obtain ⟨rfl, rfl, rfl, C, rfl, r2, r3, r3o⟩ := p5
      obtain ⟨_, e2, e3, e4⟩ := p3
      refine ⟨Nat.le_refl _, fun g _ hg => ?_, fun g k a b _ hg _ hk ha hb _ => by
        obtain rfl : g = 0 := by omega
        obtain rfl : k = 0 := by omega
        rw [ha] at hb; cases hb; rfl⟩
      obtain rfl : g = 0 := by omega
      refine ⟨pl, C, (0, 0), p1, p4, e4.symm, pl.le, by rw [e3]; exact Nat.le_refl _, fun i hi => ?_, fun _ => e3, fun _ i _ => by simp [froz], fun _ => e2, fun _ => r3o⟩
      rw [e3] at hi
      obtain ⟨x, hx⟩ : ∃ x, cells[i]? = some x := ⟨cells[i], List.getElem?_eq_getElem hi⟩
      obtain ⟨v, hv, hr⟩ := r3.1.get hx
      refine ⟨x, v, hx, ?_, hr, r3.2 v (List.mem_of_getElem? hv)⟩
      rw [List.getElem?_take, if_pos hi] at hv
      rw [e2, Nat.zero_add, ← Array.getElem?_toList]; exact hv
    | map es clock =>
      obtain ⟨ES, rfl, r2⟩ := p5
      exact ⟨pl, ES, p1, p4, r2⟩
    | oth x => exact ⟨pl, o', p1, p4, p5, p3.2⟩
  refine ⟨?_, ?_, h.fresh, ?_, ?_, ?_, h.start, ?_⟩
  rotate_right
  · intro b hb
    obtain ⟨d1, d2, d3⟩ := h.base b hb
    refine ⟨d1, d2, ?_⟩
    rintro ⟨i, o, g, pl', ho, hz, hp, rfl⟩
    by_cases hi : i = q.id
    · subst hi
      by_cases hg : g = 0
      · subst hg; rw [p1] at hp; cases hp; omega
      · rw [p2 g hg] at hp; cases hp
    · have ho' : S.h.get i = some o := by rw [← hget i hi]; exact ho
      exact d3 ⟨i, o, g, pl', ho', hz, hp, rfl⟩
  · intro i o ho
    by_cases hi : i = q.id
    · subst hi; rw [get_set_same] at ho; cases ho; exact hob
    · rw [hget i hi] at ho; exact h.objs i o ho
  · intro i o ho
    by_cases hi : i = q.id
    · subst hi; exact hlt
    · rw [hget i hi] at ho; exact h.dom i o ho
  · intro i cells low top frz ty ho g hg
    by_cases hi : i = q.id
    · subst hi; exact p2 g (by omega)
    · rw [hget i hi] at ho; exact h.topg i cells low top frz ty ho g hg
  · intro i o g pl' ho hp
    by_cases hi : i = q.id
    · subst hi
      by_cases hg : g = 0
      · subst hg; rw [p1] at hp; cases hp; exact (Array.getElem?_eq_some_iff.1 p4).1
      · rw [p2 g hg] at hp; cases hp
    · rw [hget i hi] at ho; exact h.lt i o g pl' ho hp
  · intro i j o oj g gj pli plj hij ho hoj hp hpj
    by_cases hi : i = q.id
    · subst hi
      have hj : j ≠ q.id := fun e => hij e.symm
      rw [hget j hj] at hoj
      by_cases hg : g = 0
      · subst hg; rw [p1] at hp; cases hp
        exact .inl fun hb => p6 ⟨j, oj, gj, plj, hoj, hpj, hb.symm⟩
      · rw [p2 g hg] at hp; cases hp
    · rw [hget i hi] at ho
      by_cases hj : j = q.id
      · subst hj
        by_cases hg : gj = 0
        · subst hg; rw [p1] at hpj; cases hpj
          exact .inl fun hb => p6 ⟨i, o, g, pli, ho, hp, hb⟩
        · rw [p2 gj hg] at hpj; cases hpj
      · rw [hget j hj] at hoj
        exact h.apart i j o oj g gj pli plj hij ho hoj hp hpj

theorem Kp.commit {ρ0 ρ : Rho} {S0 S : AS} {w0 w : World} {q : Pend} (h : Kp ρ0 S0 w0 ρ S w) (hq : PendOk ρ S w w0.heap.size q) (hid : S0.next ≤ q.id) :
    Kp ρ0 S0 w0 ρ ⟨S.h.set q.id q.obj, S.next⟩ w := by
  obtain ⟨hn, hlt, pl, o', p1, p2, p3, p4, p5, p6, p7⟩ := hq
  refine ⟨h.ext, h.os, h.tape, h.output, h.size, h.keep, ?_, ?_, h.next, ?_⟩
  · rintro b ⟨i, o, g, pl', ho, hp, rfl⟩
    by_cases hi : i = q.id
    · subst hi
      by_cases hg : g = 0
      · subst hg; rw [p1] at hp; cases hp; exact .inr p7
      · rw [p2 g hg] at hp; cases hp
    · rw [get_set_ne _ _ hi] at ho
      exact h.mine _ ⟨i, o, g, pl', ho, hp, rfl⟩
  · rintro b ⟨i, o, g, pl', ho, hz, hp, rfl⟩
    by_cases hi : i = q.id
    · subst hi
      by_cases hg : g = 0
      · subst hg; rw [p1] at hp; cases hp; exact .inr p7
      · rw [p2 g hg] at hp; cases hp
    · rw [get_set_ne _ _ hi] at ho
      exact h.wrt _ ⟨i, o, g, pl', ho, hz, hp, rfl⟩
  · intro i g hi hn0
    obtain ⟨e1, e2⟩ := h.resv i g hi hn0
    exact ⟨e1, by show (S.h.set q.id q.obj).get i = Option.none; rw [get_set_ne _ _ (by omega)]; exact e2⟩

/-- Another laid block stays as it is. -/
theorem PendOk.commit {ρ : Rho} {S : AS} {w : World} {B : Nat} {q p : Pend} (hp : PendOk ρ S w B p) (hq : PendOk ρ S w B q) (hid : p.id ≠ q.id)
    (hb : ∀ a b, ρ p.id 0 = some a → ρ q.id 0 = some b → a.b ≠ b.b) : PendOk ρ ⟨S.h.set q.id q.obj, S.next⟩ w B p := by
  obtain ⟨hn, hlt, pl, o', p1, p2, p3, p4, p5, p6, p7⟩ := hp
  obtain ⟨qn, qlt, qpl, qo', q1, q2, _⟩ := hq
  refine ⟨by show (S.h.set q.id q.obj).get p.id = Option.none; rw [get_set_ne _ _ hid]; exact hn, hlt, pl, o', p1, p2, p3, p4, p5, ?_, p7⟩
  rintro ⟨i, o, g, pl', ho, hp', he⟩
  by_cases hi : i = q.id
  · subst hi
    by_cases hg : g = 0
    · subst hg; rw [q1] at hp'; cases hp'
      exact hb pl qpl p1 q1 he.symm
    · rw [q2 g hg] at hp'; cases hp'
  · rw [get_set_ne _ _ hi] at ho
    exact p6 ⟨i, o, g, pl', ho, hp', he⟩

/-- A block is laid under a number that was kept. -/
theorem R.reserve {ρ : Rho} {S : AS} {w w' : World} {id : Nat} {o' : Obj} {pl : Pl} (h : R Λ ρ S w) (hg : Grew o' w w') (hr : ∀ g, ρ id g = none) (hn : S.h.get id = none) (hlt : id < S.next) :
    R Λ (put ρ id 0 pl) S w' := by
  have hx := put_ext pl (hr 0)
  have hne : ∀ i o, S.h.get i = some o → i ≠ id := fun i o ho e => by subst e; rw [hn] at ho; cases ho
  have hpe : ∀ i o g, S.h.get i = some o → put ρ id 0 pl i g = ρ i g := fun i o g ho => put_ne _ _ (fun e => hne i o ho e.1)
  refine ⟨fun i o ho => ?_, h.dom, fun i g hi => ?_, fun i cells low top frz ty ho g hgt => ?_, fun i o g p ho hp => ?_, fun i j o oj g gj pli plj hij ho hoj hp hpj => ?_, by rw [hg.size]; have := h.start; omega, fun b hb => ?_⟩
  · exact (h.objs i o ho).keep hx fun g p hp => hg.old p.b (h.lt i o g p ho hp)
  · rw [put_ne _ _ (by omega)]; exact h.fresh i g hi
  · rw [hpe i _ g ho]; exact h.topg i cells low top frz ty ho g hgt
  · rw [hpe i o g ho] at hp
    have := h.lt i o g p ho hp
    rw [hg.size]; omega
  · rw [hpe i o g ho] at hp
    rw [hpe j oj gj hoj] at hpj
    exact h.apart i j o oj g gj pli plj hij ho hoj hp hpj
  · obtain ⟨d1, d2, d3⟩ := h.base b hb
    refine ⟨d1, (hg.old b (Nat.lt_of_lt_of_le d1 h.start)).trans d2, ?_⟩
    rintro ⟨i, o, g, p, ho, hz, hp, rfl⟩
    rw [hpe i o g ho] at hp
    exact d3 ⟨i, o, g, p, ho, hz, hp, rfl⟩
theorem Kp.reserve {ρ0 ρ : Rho} {S0 S : AS} {w0 w w' : World} {id : Nat} {o' : Obj} {pl : Pl} (h : Kp ρ0 S0 w0 ρ S w) (hg : Grew o' w w') (hr : ∀ g, ρ id g = none) (hn : S.h.get id = none) (hid : S0.next ≤ id) :
    Kp ρ0 S0 w0 (put ρ id 0 pl) S w' := by
  refine ⟨h.ext.trans (put_ext pl (hr 0)), hg.os.trans h.os, hg.tape.trans h.tape, hg.output.trans h.output, by rw [hg.size]; have := h.size; omega, fun b hb hm => ?_, ?_, ?_, h.next, fun i g hi hn0 => ?_⟩
  · exact (hg.old b (Nat.lt_of_lt_of_le hb h.size)).trans (h.keep b hb hm)
  · rintro b ⟨i, o, g, p, ho, hp, rfl⟩
    have hne : i ≠ id := fun e => by subst e; rw [hn] at ho; cases ho
    rw [put_ne _ _ (fun e => hne e.1)] at hp
    exact h.mine _ ⟨i, o, g, p, ho, hp, rfl⟩
  · rintro b ⟨i, o, g, p, ho, hz, hp, rfl⟩
    have hne : i ≠ id := fun e => by subst e; rw [hn] at ho; cases ho
    rw [put_ne _ _ (fun e => hne e.1)] at hp
    exact h.wrt _ ⟨i, o, g, p, ho, hz, hp, rfl⟩
  · obtain ⟨e1, e2⟩ := h.resv i g hi hn0
    exact ⟨by rw [put_ne _ _ (by omega)]; exact e1, e2⟩

/-- A laid block is not touched by a step that keeps what is not its own. -/
theorem PendOk.carry {ρ ρ' : Rho} {S S' : AS} {w w' : World} {B : Nat} {p : Pend} (hp : PendOk ρ S w B p) (hk : Kp ρ S w ρ' S' w') : PendOk ρ' S' w' B p := by
  obtain ⟨hn, hlt, pl, o', p1, p2, p3, p4, p5, p6, p7⟩ := hp
  have hs : pl.b < w.heap.size := (Array.getElem?_eq_some_iff.1 p4).1
  have hr : ∀ g, ρ' p.id g = ρ p.id g := fun g => (hk.resv p.id g hlt hn).1
  refine ⟨(hk.resv p.id 0 hlt hn).2, Nat.lt_of_lt_of_le hlt hk.next, pl, o', by rw [hr]; exact p1, fun g hg => by rw [hr]; exact p2 g hg, p3, (hk.keep pl.b hs (fun h => p6 h.mine)).trans p4, p5.mono hk.ext, fun hm => ?_, p7⟩
  rcases hk.mine _ hm with h1 | h1
  · exact p6 h1
  · omega

/-- Many are made known at once. -/
theorem commit_ok {ρ0 ρ : Rho} {S0 : AS} {w0 w : World} (hB : Λ.w.heap.size ≤ w0.heap.size) (pr : Pend → Bool) : ∀ (ps : List Pend) (S : AS), R Λ ρ S w → Kp ρ0 S0 w0 ρ S w →
    (∀ q, q ∈ ps → pr q = true → PendOk ρ S w w0.heap.size q ∧ S0.next ≤ q.id) →
    ps.Pairwise (fun p q => p.id ≠ q.id) → (∀ p q a b, p ∈ ps → pr p = true → q ∈ ps → pr q = true → p.id ≠ q.id → ρ p.id 0 = some a → ρ q.id 0 = some b → a.b ≠ b.b) →
    R Λ ρ (commit pr ps S) w ∧ Kp ρ0 S0 w0 ρ (commit pr ps S) w ∧ (commit pr ps S).next = S.next ∧
      ∀ p, PendOk ρ S w w0.heap.size p → (∀ q, q ∈ ps → pr q = true → p.id ≠ q.id ∧ ∀ a b, ρ p.id 0 = some a → ρ q.id 0 = some b → a.b ≠ b.b) → PendOk ρ (commit pr ps S) w w0.heap.size p := by
  intro ps
  induction ps with
  | nil => intro S h1 h2 _ _ _; exact ⟨h1, h2, rfl, fun p hp _ => hp⟩
  | cons x ps ih =>
    intro S h1 h2 h3 h4 h5
    have hun : commit pr (x :: ps) S = commit pr ps (cond (pr x) ⟨S.h.set x.id x.obj, S.next⟩ S) := rfl
    rw [hun]
    obtain ⟨h4a, h4b⟩ := List.pairwise_cons.1 h4
    cases hx : pr x with
    | false =>
      simp only [cond_false]
      obtain ⟨r1, r2, r3, r4⟩ := ih S h1 h2 (fun q hq => h3 q (by simp [hq])) h4b (fun p q a b hp h hq h' => h5 p q a b (by simp [hp]) h (by simp [hq]) h')
      exact ⟨r1, r2, r3, fun p hp hq => r4 p hp fun q hm => hq q (by simp [hm])⟩
    | true =>
      simp only [cond_true]
      obtain ⟨hx1, hx2⟩ := h3 x (by simp) hx
      obtain ⟨r1, r2, r3, r4⟩ := ih ⟨S.h.set x.id x.obj, S.next⟩ (h1.commit hx1 hB) (h2.commit hx1 hx2) (fun q hq hp => by
        obtain ⟨a, b⟩ := h3 q (by simp [hq]) hp
        exact ⟨a.commit hx1 (fun e => h4a q hq e.symm) (fun u v hu hv => h5 q x u v (by simp [hq]) hp (by simp) hx (fun e => h4a q hq e.symm) hu hv), b⟩) h4b
        (fun p q a b hp h hq h' => h5 p q a b (by simp [hp]) h (by simp [hq]) h')
      refine ⟨r1, r2, r3, fun p hp hq => r4 p ?_ fun q hm => hq q (by simp [hm])⟩
      obtain ⟨a, b⟩ := hq x (by simp) hx
      exact hp.commit hx1 a b

end Go.Am
