/-
  The abstract machine: slices of unknown shape, as rules for simp.
-/
import Derived.Test.YtpgmahedcpepkaaGreatDoorAmStill
import Derived.Test.YtpgmahedcpepkaaGreatDoorAmWin
namespace Go.Am
open Go
set_option linter.unusedSimpArgs false

def capB (n : Nat) : Option Nat → Bool | none => true | some c => decide (n ≤ c)
def isSl (sz : Nat) : AV → Bool | .nils => true | .slice _ _ _ n _ z c => decide (z = sz) && capB n c | _ => false
def sLen : AV → Nat | .slice _ _ _ n _ _ _ => n | _ => 0
def isNil : AV → Bool | .nils => true | _ => false
/-- Above the block that it speaks of. -/
def bnd : AV → Nat | .slice id .. => id + 1 | .ptr id .. => id + 1 | .map id => id + 1 | _ => 0
def pAt (v : AV) (k : Nat) : AV := match v with | .slice id g off _ lim sz _ => .ptr id g (off + k * sz) lim | _ => .undef
noncomputable def rdS (S : AS) (v : AV) : Option (List AV) :=
  match v with
  | .nils => some []
  | .slice id g off n lim sz _ => match n with | 0 => some [] | n + 1 => rd S id g off ((n + 1) * sz) lim
  | _ => none
/-- A slice type: its elements' type, their cells, their bytes. -/
noncomputable def slT (cx : Cx) (t : TypeId) : Option (Nat × Nat × Nat) :=
  match und cx t with
  | some (.slice e) => match szOf cx e, bytesOf cx e with
    | some (z + 1), some bs => cond (zeroOk cx e (z + 1)) (some (e, z + 1, bs)) none
    | _, _ => none
  | _ => none
theorem slT_und {cx : Cx} {t : TypeId} {p : Nat × Nat × Nat} (h : slT cx t = some p) : und cx t = some (.slice p.1) ∧ szOf cx p.1 = some p.2.1 ∧ bytesOf cx p.1 = some p.2.2 ∧ zeroOk cx p.1 p.2.1 = true ∧ 0 < p.2.1 := by
  unfold slT at h
  split at h
  · rename_i e hu
    split at h
    · rename_i z bs hs hb
      cases hz : zeroOk cx e (z + 1) with
      | false => rw [hz] at h; cases h
      | true =>
        rw [hz] at h
        cases h
        exact ⟨hu, hs, hb, hz, Nat.succ_pos _⟩
    · cases h
  · cases h
def idxOf : AV → Nat | .int _ n => n.toNat | _ => 0
def inA (u : AV) (n : Nat) : Bool := match u with | .int _ m => decide (0 ≤ m) && decide (m < n) | _ => false
theorem idxOf_int {k : IntKind} {n : Int} : idxOf (.int k n) = n.toNat := rfl
theorem inA_nat {u : AV} {n : Nat} (h : inA u n = true) : ∃ (k : IntKind) (i : Nat), u = .int k i ∧ i < n := by
  cases u <;> simp only [inA, Bool.false_eq_true, Bool.and_eq_true, decide_eq_true_eq] at h
  rename_i k m
  exact ⟨k, m.toNat, by rw [Int.toNat_of_nonneg h.1], by omega⟩
theorem inA_int {k : IntKind} {m : Int} {n : Nat} : inA (.int k m) n = (decide (0 ≤ m) && decide (m < n)) := by simp [inA]

/-- What a slice holds. -/
structure Sl (S : AS) (v : AV) (sz : Nat) (cs : List AV) : Prop where
  sl : isSl sz v = true
  rd : rdS S v = some cs
  len : cs.length = sLen v * sz
  old : bnd v ≤ S.next

theorem rdS_set {S : AS} {v : AV} {id n : Nat} {o : AObj} (h : bnd v ≤ id) : rdS ⟨S.h.set id o, n⟩ v = rdS S v := by
  unfold rdS
  split <;> try rfl
  rename_i i g off n lim sz _
  cases n with
  | zero => rfl
  | succ n =>
    have hne : i ≠ id := by simp only [bnd] at h; omega
    simp only [rd_at, get_set_ne _ _ hne]
theorem rdS_ne {S : AS} {v : AV} {id n : Nat} {o : AObj} (h : bnd v ≠ id + 1) : rdS ⟨S.h.set id o, n⟩ v = rdS S v := by
  unfold rdS
  split <;> try rfl
  rename_i i g off n lim sz _
  cases n with
  | zero => rfl
  | succ n =>
    have hne : i ≠ id := by simp only [bnd] at h; omega
    simp only [rd_at, get_set_ne _ _ hne]
theorem rdS_next {S : AS} {v : AV} {n : Nat} : rdS ⟨S.h, n⟩ v = rdS S v := rfl
theorem rdS_sub {S T : AS} {v : AV} {lo : Nat} (hs : ∀ id, id < lo → T.h.get id = S.h.get id) (h : bnd v ≤ lo) : rdS T v = rdS S v := by
  unfold rdS
  split <;> try rfl
  rename_i i g off n lim sz _
  cases n with
  | zero => rfl
  | succ n =>
    have hlt : i < lo := by simp only [bnd] at h; omega
    simp only [rd_at, hs i hlt]
theorem Sl.sub {S T : AS} {v : AV} {sz : Nat} {cs : List AV} {lo : Nat} (h : Sl S v sz cs) (hs : ∀ id, id < lo → T.h.get id = S.h.get id) (hn : S.next ≤ T.next) (hb : bnd v ≤ lo) : Sl T v sz cs :=
  ⟨h.sl, by rw [rdS_sub hs hb]; exact h.rd, h.len, Nat.le_trans h.old hn⟩
theorem Sl.toSub {S T : AS} {v : AV} {sz : Nat} {cs : List AV} (h : Sl S v sz cs) (hs : Sub S T) : Sl T v sz cs := h.sub hs.h hs.next h.old
theorem Sl.beside {S : AS} {v : AV} {sz : Nat} {cs : List AV} (h : Sl S v sz cs) {id n : Nat} {o : AObj} (hb : bnd v ≠ id + 1) (hn : S.next ≤ n) : Sl ⟨S.h.set id o, n⟩ v sz cs :=
  ⟨h.sl, by rw [rdS_ne hb]; exact h.rd, h.len, Nat.le_trans h.old hn⟩
theorem Sl.nil {S : AS} {sz : Nat} : Sl S .nils sz [] := ⟨rfl, rfl, by simp [sLen], Nat.zero_le _⟩
theorem Sl.len1 {S : AS} {v : AV} {cs : List AV} (h : Sl S v 1 cs) : sLen v = cs.length := by have := h.len; omega
theorem Sl.isNil {S : AS} {v : AV} {sz : Nat} {cs : List AV} (h : Sl S v sz cs) (hn : isNil v = true) : v = .nils ∧ cs = [] := by
  cases v <;> simp only [Am.isNil, Bool.false_eq_true] at hn
  have := h.rd
  exact ⟨rfl, by simp only [rdS, Option.some.injEq] at this; exact this.symm⟩
theorem Sl.notNil {S : AS} {v : AV} {sz : Nat} {cs : List AV} (h : Sl S v sz cs) (hn : cs ≠ []) : Am.isNil v = false := by
  cases hh : Am.isNil v with
  | false => rfl
  | true => exact absurd (h.isNil hh).2 hn
theorem Sl.cases {S : AS} {v : AV} {sz : Nat} {cs : List AV} (h : Sl S v sz cs) : v = .nils ∨ ∃ id g off n lim cap, v = .slice id g off n lim sz cap := by
  have := h.sl
  cases v <;> simp only [isSl, Bool.false_eq_true] at this
  · exact .inl rfl
  · rename_i id g off n lim z cap
    simp only [Bool.and_eq_true, decide_eq_true_eq] at this
    obtain ⟨this, _⟩ := this
    subst this
    exact .inr ⟨id, g, off, n, lim, cap, rfl⟩

section
variable {cx : Cx} {F : Fr} {S : AS} {t : TypeId} {p : Nat × Nat × Nat} {v : AV}
variable {dst : Option Tmp} {ty : TypeId} {pos : String} {af : Array Edge} {gd : Option (Nat × Bool)}

theorem len_sl {ts : List TypeId} {as : List AV} (h : slT cx t = some p) (hv : isSl p.2.1 v = true) : builtinV cx S .len (t :: ts) (v :: as) = .val (.int .i64 (sLen v)) S := by
  obtain ⟨hu, _⟩ := slT_und h
  cases v <;> simp only [isSl, Bool.false_eq_true] at hv
  · exact len_nils hu
  · exact len_slice hu
theorem aop_index_sl {x ix : Tmp} {u : AV} (hx : sl F x = v) (hi : sl F ix = u) (h : slT cx t = some p) (hv : isSl p.2.1 v = true) (hn : inA u (sLen v) = true) :
    aop cx F S ⟨dst, .indexAddr t (.tmp x) (.tmp ix), ty, pos, af, gd⟩ = .val (pAt v (idxOf u)) S := by
  obtain ⟨hu, hs, _⟩ := slT_und h
  obtain ⟨k, i, rfl, hi'⟩ := inA_nat hn
  cases v <;> simp only [isSl, Bool.false_eq_true] at hv
  · simp [sLen] at hi'
  · rename_i id g off len lim z cap
    simp only [Bool.and_eq_true, decide_eq_true_eq] at hv
    replace hv := hv.1
    rw [aop_indexAddr (i := i) ((eval_tmp F x).trans hx) hu (by rw [hs, hv]) ((eval_tmp F ix).trans hi) rfl hi']
    rfl
theorem aop_index_slc {x : Tmp} {k : IntKind} {m : Int} (hx : sl F x = v) (h : slT cx t = some p) (hv : isSl p.2.1 v = true) (hn : inA (.int k m) (sLen v) = true) :
    aop cx F S ⟨dst, .indexAddr t (.tmp x) (.const (.int k m)), ty, pos, af, gd⟩ = .val (pAt v m.toNat) S := by
  obtain ⟨hu, hs, _⟩ := slT_und h
  obtain ⟨k', i, e, hi'⟩ := inA_nat hn
  cases e
  cases v <;> simp only [isSl, Bool.false_eq_true] at hv
  · simp [sLen] at hi'
  · rename_i id g off len lim z cap
    simp only [Bool.and_eq_true, decide_eq_true_eq] at hv
    replace hv := hv.1
    rw [aop_indexAddr (i := i) ((eval_tmp F x).trans hx) hu (by rw [hs, hv]) (by rw [eval_const, ofV_int]) rfl hi']
    rfl
theorem rdS_some {S : AS} {v : AV} {sz : Nat} {cs : List AV} (h : Sl S v sz cs) {k : Nat} (hk : k < sLen v) : ∃ id g off n lim cap, v = .slice id g off n lim sz cap ∧
    ∃ cells low top frz e, S.h.get id = some (.row cells low top frz e) ∧ low ≤ g ∧ g ≤ top ∧ off + n * sz ≤ lim ∧ (cells.drop off).take (n * sz) = cs := by
  rcases h.cases with rfl | ⟨id, g, off, n, lim, cap, rfl⟩
  · simp [sLen] at hk
  · have hr := h.rd
    simp only [sLen] at hk
    obtain ⟨n, rfl⟩ : ∃ m, n = m + 1 := ⟨n - 1, by omega⟩
    simp only [rdS, rd_at] at hr
    refine ⟨id, g, off, n + 1, lim, cap, rfl, ?_⟩
    unfold rdO at hr
    split at hr
    · rename_i cells low top frz e hg
      split at hr
      · rename_i hc
        exact ⟨cells, low, top, frz, e, hg, hc.1, hc.2.1, hc.2.2, by simpa using hr⟩
      · cases hr
    · cases hr
theorem loadT_sl {e : TypeId} {cs : List AV} {k : Nat} {x : AV} (h : Sl S v 1 cs) (hk : cs[k]? = some x) (ha : aggOf cx e = some false) : loadT cx S e (pAt v k) = some x := by
  have hkl : k < sLen v := by rw [h.len1]; exact (List.getElem?_eq_some_iff.1 hk).1
  obtain ⟨id, g, off, n, lim, cap, rfl, cells, low, top, frz, e', hg, h1, h2, h3, h4⟩ := rdS_some h hkl
  simp only [sLen] at hkl
  simp only [pAt, loadT_ptr, loadV_at, ha, loadK_one, hg, rdO_row]
  rw [if_pos ⟨h1, h2, by omega⟩]
  have : (cells.drop (off + k * 1)).take 1 = [x] := by
    rw [← h4, List.getElem?_take, if_pos (by omega), List.getElem?_drop] at hk
    rw [Nat.mul_one, List.take_one, List.head?_drop, hk]; rfl
  rw [this]; rfl
theorem loadT_agg {e : TypeId} {cs : List AV} {k sz : Nat} (h : Sl S v sz cs) (hk : k < sLen v) (ha : aggOf cx e = some true) (hs : szOf cx e = some sz) : loadT cx S e (pAt v k) = some (.agg ((cs.drop (k * sz)).take sz)) := by
  obtain ⟨id, g, off, n, lim, cap, rfl, cells, low, top, frz, e', hg, h1, h2, h3, h4⟩ := rdS_some h hk
  simp only [sLen] at hk
  have hle : k * sz + sz ≤ n * sz := by rw [← Nat.succ_mul]; exact Nat.mul_le_mul_right _ hk
  simp only [pAt, loadT_ptr, loadV_at, ha, hs, loadK_agg, hg, rdO_row]
  rw [if_pos ⟨h1, h2, by omega⟩]
  simp only [aggL_some, Option.some.injEq, AV.agg.injEq]
  rw [← h4, List.drop_take, List.take_take, Nat.min_eq_left (by omega), List.drop_drop]
/-- .. as simp takes it: what is known of the slice stands as equations. -/
theorem loadT_one {e : TypeId} {cs : List AV} {k : Nat} {x : AV} (hr : rdS S v = some cs) (hs : isSl 1 v = true) (hl : cs.length = sLen v) (hk : cs[k]? = some x) (ha : aggOf cx e = some false) : loadT cx S e (pAt v k) = some x := by
  have h : Sl ⟨S.h, S.next + bnd v⟩ v 1 cs := ⟨hs, hr, by omega, Nat.le_add_left _ _⟩
  exact loadT_sl (S := ⟨S.h, S.next + bnd v⟩) h hk ha

theorem eq_nil {c : Bool} (h : slT cx t = some p) (hv : isSl p.2.1 v = true) : binV cx .eql t c v .nils = some (.bool (isNil v)) := by
  obtain ⟨hu, _⟩ := slT_und h
  have e : eqT cx 6 t v .nils = some (isNil v) := by
    show (match und cx t with | none => none | some d => eqStep cx (eqT cx 5) t d v .nils) = _
    rw [hu]
    cases v <;> simp only [isSl, Bool.false_eq_true] at hv <;> rfl
  cases v <;> simp only [isSl, Bool.false_eq_true] at hv <;> simp [binV, eqV, oddA, e]
theorem ne_nil {c : Bool} (h : slT cx t = some p) (hv : isSl p.2.1 v = true) : binV cx .neq t c v .nils = some (.bool (!isNil v)) := by
  obtain ⟨hu, _⟩ := slT_und h
  have e : eqT cx 6 t v .nils = some (isNil v) := by
    show (match und cx t with | none => none | some d => eqStep cx (eqT cx 5) t d v .nils) = _
    rw [hu]
    cases v <;> simp only [isSl, Bool.false_eq_true] at hv <;> rfl
  cases v <;> simp only [isSl, Bool.false_eq_true] at hv <;> simp [binV, eqV, oddA, e]

/-! ### A slice laid at once -/
noncomputable def bldS (cx : Cx) (t : TypeId) (n : Nat) (l : List AV) (id : Nat) : Option (AV × AObj) := match slT cx t with
  | some p => if p.2.1 = 1 ∧ l.length = n ∧ n ≤ 16777216 then some (.slice id 0 0 n n 1 (some n), .row l 0 0 false p.1) else none
  | none => none
end

theorem fill_ones {F : Fr} {cx : Cx} : ∀ (l : List (Nat × Operand)) (k : Nat) (pre z : List AV) (vs : List AV), pre.length = k → l.map (·.1) = List.range' k l.length → l.map (fun p => cellsOf (eval F p.2)) = vs.map (fun v => some [v]) → z.length = l.length →
    fillL cx F (fun i => some (Nat.mul i 1, 1)) l (pre ++ z) = some (pre ++ vs)
  | [], k, pre, z, vs, _, _, hv, hz => by
    cases vs with
    | nil => have : z = [] := List.length_eq_zero_iff.1 hz; subst this; rfl
    | cons v vs => simp at hv
  | q :: l, k, pre, z, vs, hp, hi, hv, hz => by
    cases vs with
    | nil => simp at hv
    | cons v vs =>
      cases z with
      | nil => simp at hz
      | cons y z =>
        simp only [List.map_cons, List.cons.injEq, List.length_cons, List.range'_succ] at hi hv hz
        show (match (some (Nat.mul q.1 1, 1) : Option (Nat × Nat)), cellsOf (eval F q.2) with
          | some (off, size), some new => cond (Nat.beq (lenL new) size && Nat.ble (Nat.add off size) (lenL (pre ++ y :: z))) (fillL cx F (fun i => some (Nat.mul i 1, 1)) l (splice off (pre ++ y :: z) new)) none
          | _, _ => none) = _
        rw [hv.1, hi.1]
        simp only [lenL_eq, nbeq, nble, List.length_cons, List.length_nil, List.length_append]
        have h1 : Nat.mul k 1 = k := Nat.mul_one k
        rw [h1]
        have h2 : decide (Nat.add k 1 ≤ pre.length + (z.length + 1)) = true := by
          rw [decide_eq_true_eq]; show k + 1 ≤ _; omega
        rw [h2]
        simp only [Nat.zero_add, decide_true, Bool.and_self, cond_true]
        have h3 : splice k (pre ++ y :: z) [v] = (pre ++ [v]) ++ z := by
          rw [splice_eq _ _ _ (by simp; omega)]
          subst hp
          simp
        rw [h3, fill_ones l (k + 1) (pre ++ [v]) z vs (by simp [hp]) hi.2 hv.2 (by omega)]
        simp

section
variable {cx : Cx} {F : Fr} {S : AS} {t : TypeId} {p : Nat × Nat × Nat} {id : Nat}
theorem freshV_one {v : Operand} {x : AV} (h : slT cx t = some p) (h1 : p.2.1 = 1) (hx : cellsOf (eval F v) = some [x]) : freshV cx F id (.buildSlice t 1 #[(0, v)]) = some (.slice id 0 0 1 1 1 (some 1), .row [x] 0 0 false p.1) := by
  obtain ⟨hu, hs, hb, hz, hp⟩ := slT_und h
  obtain ⟨e, sz, bs⟩ := p
  simp only at h1 hu hs hb hz
  subst h1
  unfold zeroOk at hz
  cases hzz : zeroOf cx e with
  | none => rw [hzz] at hz; cases hz
  | some z =>
    rw [hzz] at hz
    cases hc : cellsOf z with
    | none => simp [hc] at hz
    | some zl =>
      simp only [hc] at hz
      simp only [nbeq, lenL_eq, decide_eq_true_eq] at hz
      obtain ⟨y, rfl⟩ : ∃ y, zl = [y] := by
        cases zl with
        | nil => simp at hz
        | cons y l => cases l with
          | nil => exact ⟨y, rfl⟩
          | cons _ _ => simp at hz
      unfold freshV
      simp only [hu, hs, hzz, hc]
      have hf : fillL cx F (fun i => some (Nat.mul i 1, 1)) [(0, v)] [y] = some [x] := by
        have := fill_ones (cx := cx) (F := F) [(0, v)] 0 [] [y] [x] rfl rfl (by simp [hx]) rfl
        simpa using this
      have hr : repL 1 [y] = [y] := rfl
      have hb : (Nat.beq (lenL [y]) (Nat.succ 0) && Nat.ble (Nat.mul 1 (Nat.succ 0)) 16777216) = true := rfl
      rw [hb]
      simp only [cond_true]
      show (match fillL cx F (fun i => some (Nat.mul i 1, 1)) [(0, v)] (repL 1 [y]) with | some cells => some (AV.slice id 0 0 1 1 1 (some 1), AObj.row cells 0 0 false e) | none => none) = _
      rw [hr, hf]
theorem freshV_none (h : slT cx t = some p) : freshV cx F id (.buildSlice t 0 #[]) = some (.slice id 0 0 0 0 p.2.1 (some 0), .row [] 0 0 false p.1) := by
  obtain ⟨hu, hs, hb, hz, hp⟩ := slT_und h
  obtain ⟨e, sz, bs⟩ := p
  simp only at hu hs hb hz hp
  obtain ⟨z0, rfl⟩ : ∃ z0, sz = z0 + 1 := ⟨sz - 1, by omega⟩
  unfold zeroOk at hz
  cases hzz : zeroOf cx e with
  | none => rw [hzz] at hz; cases hz
  | some z =>
    rw [hzz] at hz
    cases hc : cellsOf z with
    | none => simp [hc] at hz
    | some zl =>
      simp only [hc] at hz
      simp only [nbeq, lenL_eq, decide_eq_true_eq] at hz
      unfold freshV
      simp only [hu, hs, hzz, hc]
      have hb : (Nat.beq (lenL zl) (Nat.succ z0) && Nat.ble (Nat.mul 0 (Nat.succ z0)) 16777216) = true := by
        simp [nbeq, nble, lenL_eq, hz]
      rw [hb]
      simp only [cond_true]
      show some (AV.slice id 0 0 0 (Nat.mul 0 (Nat.succ z0)) (Nat.succ z0) (some 0), AObj.row [] 0 0 false e) = _
      rw [show Nat.mul 0 (Nat.succ z0) = 0 from Nat.zero_mul _]
end

/-! ### A slice of the call's own, that grows -/
def Own (S : AS) (lo : Nat) (v : AV) (sz e : Nat) (cs : List AV) : Prop :=
  (v = .nils ∧ cs = []) ∨ ∃ id g low n, v = .slice id g 0 n (n * sz) sz none ∧ lo ≤ id ∧ id < S.next ∧ S.h.get id = some (.row cs low g false e) ∧ low ≤ g ∧ cs.length = n * sz
theorem Own.sl {S : AS} {lo : Nat} {v : AV} {sz e : Nat} {cs : List AV} (h : Own S lo v sz e cs) : Sl S v sz cs := by
  rcases h with ⟨rfl, rfl⟩ | ⟨id, g, low, n, rfl, h1, h2, h3, h4, h5⟩
  · exact Sl.nil
  · refine ⟨by simp [isSl, capB], ?_, by simp [sLen, h5], by simp [bnd]; omega⟩
    cases n with
    | zero => simp at h5; simp [rdS, h5]
    | succ n =>
      simp only [rdS, rd_at, h3, rdO_row]
      rw [if_pos ⟨h4, Nat.le_refl _, by omega⟩]
      simp [← h5]
theorem Own.mono {S : AS} {lo lo' : Nat} {v : AV} {sz e : Nat} {cs : List AV} (h : Own S lo v sz e cs) (hl : lo' ≤ lo) : Own S lo' v sz e cs := by
  rcases h with h | ⟨id, g, low, n, h0, h1, h2, h3, h4, h5⟩
  · exact .inl h
  · exact .inr ⟨id, g, low, n, h0, Nat.le_trans hl h1, h2, h3, h4, h5⟩
/-- Another's block has turned, or new ones have come. -/
theorem Own.keep {S T : AS} {lo : Nat} {v : AV} {sz e : Nat} {cs : List AV} (h : Own S lo v sz e cs) (hs : ∀ id, lo ≤ id → id < S.next → T.h.get id = S.h.get id) (hn : S.next ≤ T.next) : Own T lo v sz e cs := by
  rcases h with h | ⟨id, g, low, n, h0, h1, h2, h3, h4, h5⟩
  · exact .inl h
  · exact .inr ⟨id, g, low, n, h0, h1, Nat.lt_of_lt_of_le h2 hn, by rw [hs id h1 h2]; exact h3, h4, h5⟩
theorem Own.sub {S T : AS} {lo : Nat} {v : AV} {sz e : Nat} {cs : List AV} (h : Own S lo v sz e cs) (hs : Sub S T) : Own T lo v sz e cs := h.keep (fun id _ h2 => hs.h id h2) hs.next
theorem Own.nil {S : AS} {lo sz e : Nat} : Own S lo .nils sz e [] := .inl ⟨rfl, rfl⟩

theorem Own.above {S : AS} {lo sz e : Nat} {v : AV} {cs : List AV} (h : Own S lo v sz e cs) : bnd v = 0 ∨ (lo < bnd v ∧ bnd v ≤ S.next) := by
  rcases h with ⟨rfl, _⟩ | ⟨id, g, low, n, rfl, h1, h2, _⟩
  · exact .inl rfl
  · exact .inr ⟨Nat.lt_succ_of_le h1, h2⟩
/-- What lies ahead of lo has stayed. -/
structure Stay (lo : Nat) (S T : AS) : Prop where
  h : ∀ id, id < lo → T.h.get id = S.h.get id
  next : S.next ≤ T.next
theorem Stay.refl {lo : Nat} {S : AS} : Stay lo S S := ⟨fun _ _ => rfl, Nat.le_refl _⟩
theorem Stay.trans {lo : Nat} {A B C : AS} (h : Stay lo A B) (k : Stay lo B C) : Stay lo A C := ⟨fun id hi => (k.h id hi).trans (h.h id hi), Nat.le_trans h.next k.next⟩
theorem Stay.mono {lo lo' : Nat} {S T : AS} (h : Stay lo S T) (hl : lo' ≤ lo) : Stay lo' S T := ⟨fun id hi => h.h id (Nat.lt_of_lt_of_le hi hl), h.next⟩
theorem Sub.stay {S T : AS} (h : Sub S T) {lo : Nat} (hl : lo ≤ S.next) : Stay lo S T := ⟨fun id hi => h.h id (Nat.lt_of_lt_of_le hi hl), h.next⟩
theorem Stay.sub {S T : AS} (h : Stay S.next S T) : Sub S T := ⟨h.h, h.next⟩
theorem Stay.set {lo : Nat} {A S : AS} (h : Stay lo A S) {id n : Nat} {o : AObj} (hi : lo ≤ id) (hn : S.next ≤ n) : Stay lo A ⟨S.h.set id o, n⟩ :=
  ⟨fun i hlt => by show (S.h.set id o).get i = _; rw [get_set_ne _ _ (by omega)]; exact h.h i hlt, Nat.le_trans h.next hn⟩
theorem Sl.stay {S T : AS} {v : AV} {sz : Nat} {cs : List AV} {lo : Nat} (h : Sl S v sz cs) (hs : Stay lo S T) (hb : bnd v ≤ lo) : Sl T v sz cs := h.sub hs.h hs.next hb

def notInt (d : TypeDesc) : Bool := match d with | .int _ => false | _ => true
/-- append: more cells behind a slice of the call's own. -/
theorem append_own {cx : Cx} {S : AS} {lo t u : Nat} {ts : List TypeId} {p : Nat × Nat × Nat} {v x : AV} {cs ds : List AV} {d : TypeDesc} (h : slT cx t = some p) (hu : und cx u = some d) (hd : notInt d = true)
    (ho : Own S lo v p.2.1 p.1 cs) (hl : lo ≤ S.next) (hx : Sl S x p.2.1 ds) (hf : fits (sLen v + sLen x) p.2.2 = true) :
    ∃ v' T, builtinV cx S .append (t :: u :: ts) [v, x] = .val v' T ∧ Own T lo v' p.2.1 p.1 (cs ++ ds) ∧ Stay lo S T ∧ (∀ id, id < S.next → id + 1 ≠ bnd v → T.h.get id = S.h.get id) ∧ sLen v' = sLen v + sLen x ∧ (isNil v' = (isNil v && decide (sLen x = 0))) ∧ (bnd v' = bnd v ∨ S.next < bnd v') := by
  obtain ⟨ht, hs, hb, hz, hp⟩ := slT_und h
  obtain ⟨e, sz, bs⟩ := p
  simp only at ht hs hb hz hp ho hx hf
  obtain ⟨z, rfl⟩ : ∃ z, sz = z + 1 := ⟨sz - 1, by omega⟩
  have hun : builtinV cx S .append (t :: u :: ts) [v, x] = vals? (appendV S e (z + 1) bs v x) 4 := by
    show (match und cx t, und cx u with
      | some (.slice e), some (.int _) => vals? (appZ cx S e v x) 3
      | some (.slice e), some _ => match szOf cx e, bytesOf cx e with
        | some (Nat.succ z), some bs => cond (zeroOk cx e (Nat.succ z)) (vals? (appendV S e (Nat.succ z) bs v x) 4) (AR.err 13)
        | _, _ => AR.err 5
      | _, _ => AR.err 6) = _
    rw [ht, hu]
    cases d <;> first | (cases hd; done) | simp only [hs, hb, hz, cond_true]
  have hkey : ∀ v' T, appendV S e (z + 1) bs v x = some (v', T) → builtinV cx S .append (t :: u :: ts) [v, x] = .val v' T := fun v' T hh => by rw [hun, hh]; rfl
  have htk : taken S (z + 1) x = some (sLen x, ds) := by
    rcases hx.cases with rfl | ⟨id, g, off, n, lim, cap, rfl⟩
    · have := hx.rd
      simp only [rdS, Option.some.injEq] at this
      subst this; rfl
    · have := hx.rd
      unfold taken
      simp only [nbeq, decide_true, cond_true, sLen]
      cases n with
      | zero => simp only [rdS, Option.some.injEq] at this; subst this; rfl
      | succ n =>
        simp only [rdS] at this
        have e1 : Nat.mul (n + 1) (z + 1) = (n + 1) * (z + 1) := rfl
        simp only [e1, this]
  have hlen := hx.len
  cases hn : sLen x with
  | zero =>
    have hds : ds = [] := by rw [hn, Nat.zero_mul] at hlen; exact List.length_eq_zero_iff.1 hlen
    subst hds
    refine ⟨v, S, hkey _ _ ?_, by simpa using ho, Stay.refl, fun _ _ _ => rfl, by simp, by simp, .inl rfl⟩
    unfold appendV
    simp only [htk, hn]
    rcases ho with ⟨rfl, rfl⟩ | ⟨id, g, low, n, rfl, _⟩
    · rfl
    · simp [nbeq]
  | succ m =>
    rw [hn] at htk hf hlen
    rcases ho with ⟨rfl, rfl⟩ | ⟨id, g, low, n, rfl, h1, h2, h3, h4, h5⟩
    · refine ⟨.slice S.next 0 0 (m + 1) ((m + 1) * (z + 1)) (z + 1) none, ⟨S.h.set S.next (.row ds 0 0 false e), S.next + 1⟩, hkey _ _ ?_, .inr ⟨S.next, 0, 0, m + 1, rfl, hl, Nat.lt_succ_self _, get_set_same _ _ _, Nat.le_refl _, hlen⟩,
        Stay.refl.set hl (Nat.le_succ _), fun i hi _ => get_set_ne _ _ (by omega), by simp [sLen], by simp [isNil], .inr (by simp [bnd])⟩
      unfold appendV
      simp only [htk]
      have hf' : fits (m + 1) bs = true := by simpa [sLen] using hf
      rw [hf']
      rfl
    · refine ⟨.slice id (g + 1) 0 (n + (m + 1)) ((n + (m + 1)) * (z + 1)) (z + 1) none, ⟨S.h.set id (.row (cs ++ ds) low (g + 1) false e), S.next⟩, hkey _ _ ?_,
        .inr ⟨id, g + 1, low, n + (m + 1), rfl, h1, h2, get_set_same _ _ _, Nat.le_succ_of_le h4, by rw [List.length_append, h5, hlen]; exact (Nat.add_mul n (m + 1) (z + 1)).symm⟩,
        Stay.refl.set h1 (Nat.le_refl _), fun i hi hne => get_set_ne _ _ (fun e => hne (by simp [bnd, e])), by simp [sLen], by simp [isNil], .inl rfl⟩
      unfold appendV
      simp only [htk]
      have hf' : fits (n + (m + 1)) bs = true := by simpa [sLen] using hf
      have e1 : Nat.mul n (z + 1) = n * (z + 1) := rfl
      have e2 : Nat.mul (n + (m + 1)) (z + 1) = (n + (m + 1)) * (z + 1) := rfl
      simp only [nbeq, decide_true, cond_true, h3, nble, h4, Nat.le_refl, Bool.and_self, forceN_eq, Bool.not_true, Bool.or_false, cond_false, lenL_eq, h5, e1]
      have e3 : Nat.add n (m + 1) = n + (m + 1) := rfl
      simp only [e3, e2, hf', cond_true, appL_eq]
theorem taken_sl {S : AS} {x : AV} {sz : Nat} {ds : List AV} (h : Sl S x sz ds) : taken S sz x = some (sLen x, ds) := by
  rcases h.cases with rfl | ⟨id, g, off, n, lim, cap, rfl⟩
  · have := h.rd
    simp only [rdS, Option.some.injEq] at this
    subst this; rfl
  · have := h.rd
    unfold taken
    simp only [nbeq, decide_true, cond_true, sLen]
    cases n with
    | zero => simp only [rdS, Option.some.injEq] at this; subst this; rfl
    | succ n =>
      simp only [rdS] at this
      have e1 : Nat.mul (n + 1) sz = (n + 1) * sz := rfl
      simp only [e1, this]
theorem append_run {cx : Cx} {S : AS} {t u : Nat} {ts : List TypeId} {p : Nat × Nat × Nat} {v x : AV} {d : TypeDesc} (h : slT cx t = some p) (hu : und cx u = some d) (hd : notInt d = true) :
    builtinV cx S .append (t :: u :: ts) [v, x] = vals? (appendV S p.1 p.2.1 p.2.2 v x) 4 := by
  obtain ⟨ht, hs, hb, hz, hp⟩ := slT_und h
  obtain ⟨e, sz, bs⟩ := p
  simp only at ht hs hb hz hp
  obtain ⟨z, rfl⟩ : ∃ z, sz = z + 1 := ⟨sz - 1, by omega⟩
  show (match und cx t, und cx u with
    | some (.slice e), some (.int _) => vals? (appZ cx S e v x) 3
    | some (.slice e), some _ => match szOf cx e, bytesOf cx e with
      | some (Nat.succ z), some bs => cond (zeroOk cx e (Nat.succ z)) (vals? (appendV S e (Nat.succ z) bs v x) 4) (AR.err 13)
      | _, _ => AR.err 5
    | _, _ => AR.err 6) = _
  rw [ht, hu]
  cases d <;> first | (cases hd; done) | simp only [hs, hb, hz, cond_true]
/-- append: to an empty slice that has been laid. -/
theorem append_empty {cx : Cx} {S : AS} {t u id : Nat} {ts : List TypeId} {p : Nat × Nat × Nat} {e0 : Nat} {x : AV} {ds : List AV} {d : TypeDesc} (h : slT cx t = some p) (hu : und cx u = some d) (hd : notInt d = true)
    (hid : S.h.get id = some (.row [] 0 0 false e0)) (hlt : id < S.next) (hx : Sl S x p.2.1 ds) (hf : fits (sLen x) p.2.2 = true) :
    ∃ v' T, builtinV cx S .append (t :: u :: ts) [.slice id 0 0 0 0 p.2.1 (some 0), x] = .val v' T ∧ Sl T v' p.2.1 ds ∧ Sub S T ∧ isNil v' = false ∧ sLen v' = sLen x ∧ (sLen x ≠ 0 → Own T S.next v' p.2.1 p.1 ds) ∧ (bnd v' = id + 1 ∨ S.next < bnd v') := by
  have ht := taken_sl hx
  have hlen := hx.len
  rw [append_run h hu hd]
  cases hn : sLen x with
  | zero =>
    rw [hn] at ht hlen
    have hds : ds = [] := by rw [Nat.zero_mul] at hlen; exact List.length_eq_zero_iff.1 hlen
    subst hds
    refine ⟨.slice id 0 0 0 0 p.2.1 (some 0), S, ?_, ⟨by simp [isSl, capB], rfl, by simp [sLen], by simp [bnd]; omega⟩, Sub.refl S, rfl, rfl, fun h => absurd rfl h, .inl rfl⟩
    unfold appendV
    simp [ht, nbeq, vals?]
  | succ m =>
    rw [hn] at ht hlen hf
    have hown : Own (⟨S.h.set S.next (.row ds 0 0 false p.1), S.next + 1⟩ : AS) S.next (.slice S.next 0 0 (m + 1) ((m + 1) * p.2.1) p.2.1 none) p.2.1 p.1 ds :=
      .inr ⟨S.next, 0, 0, m + 1, rfl, Nat.le_refl _, Nat.lt_succ_self _, get_set_same _ _ _, Nat.le_refl _, hlen⟩
    refine ⟨.slice S.next 0 0 (m + 1) ((m + 1) * p.2.1) p.2.1 none, _, ?_, hown.sl, ?_, rfl, rfl, fun _ => hown, .inr (by simp [bnd])⟩
    · unfold appendV
      have e1 : Nat.add 0 (m + 1) = m + 1 := Nat.zero_add _
      have e2 : Nat.mul 0 p.2.1 = 0 := Nat.zero_mul _
      have e3 : Nat.mul (m + 1) p.2.1 = (m + 1) * p.2.1 := rfl
      simp only [ht, nbeq, decide_true, cond_true, hid, nble, Nat.le_refl, Bool.and_self, forceN_eq, e1, hf, e2]
      have e4 : decide (m + 1 ≤ 0) = false := by simp
      simp only [e4, cond_false, grown, takeN_eq, dropN_eq, appL_eq, e3]
      simp [vals?]
    · exact (Sub.refl S).set _ _ (Nat.le_refl _) _ (Nat.le_succ _)
/-- .. one that has just been laid. -/
theorem append_one {cx : Cx} {S : AS} {lo t u : Nat} {ts : List TypeId} {p : Nat × Nat × Nat} {v y : AV} {cs : List AV} {d : TypeDesc} (h : slT cx t = some p) (h1 : p.2.1 = 1) (hu : und cx u = some d) (hd : notInt d = true)
    (ho : Own S lo v 1 p.1 cs) (hl : lo ≤ S.next) (hf : fits (cs.length + 1) p.2.2 = true) :
    ∃ v' T, builtinV cx ⟨S.h.set S.next (.row [y] 0 0 false p.1), S.next + 1⟩ .append (t :: u :: ts) [v, .slice S.next 0 0 1 1 1 (some 1)] = .val v' T ∧ Own T lo v' 1 p.1 (cs ++ [y]) ∧ Stay lo S T ∧
      (∀ id, id < S.next → id + 1 ≠ bnd v → T.h.get id = S.h.get id) ∧ sLen v' = cs.length + 1 ∧ isNil v' = false ∧ (bnd v' = bnd v ∨ S.next < bnd v') := by
  have hlen := ho.sl.len1
  obtain ⟨e, sz, bs⟩ := p
  simp only at h1
  subst h1
  have ho' : Own (⟨S.h.set S.next (.row [y] 0 0 false e), S.next + 1⟩ : AS) lo v 1 e cs := ho.keep (fun id _ h2 => get_set_ne _ _ (by omega)) (Nat.le_succ _)
  have hx : Sl (⟨S.h.set S.next (.row [y] 0 0 false e), S.next + 1⟩ : AS) (.slice S.next 0 0 1 1 1 (some 1)) 1 [y] := by
    refine ⟨rfl, ?_, rfl, by simp [bnd]⟩
    simp [rdS, rd_at, get_set_same, rdO_row]
  obtain ⟨v', T, r1, r2, r3, r4, r5, r6, r7⟩ := append_own (lo := lo) (ts := ts) h hu hd ho' (Nat.le_succ_of_le hl) hx (by rw [hlen]; exact hf)
  refine ⟨v', T, r1, r2, ⟨fun id hi => (r3.h id hi).trans (get_set_ne _ _ (by omega)), Nat.le_trans (Nat.le_succ _) r3.next⟩, fun id hi hne => (r4 id (Nat.lt_succ_of_lt hi) hne).trans (get_set_ne _ _ (by omega)), by rw [r5, hlen]; rfl, by rw [r6]; simp [sLen], r7.imp id (fun h => Nat.lt_of_succ_lt h)⟩

/-- A slice of the call's own, that may still be the one that was laid first. -/
def Acc (S : AS) (lo : Nat) (v : AV) (sz e : Nat) (cs : List AV) : Prop :=
  Own S lo v sz e cs ∨ ∃ id n, v = .slice id 0 0 n (n * sz) sz (some n) ∧ 0 < n ∧ lo ≤ id ∧ id < S.next ∧ S.h.get id = some (.row cs 0 0 false e) ∧ cs.length = n * sz
theorem Acc.sl {S : AS} {lo : Nat} {v : AV} {sz e : Nat} {cs : List AV} (h : Acc S lo v sz e cs) : Sl S v sz cs := by
  rcases h with h | ⟨id, n, rfl, h0, h1, h2, h3, h4⟩
  · exact h.sl
  · refine ⟨by simp [isSl, capB], ?_, by simp [sLen, h4], h2⟩
    obtain ⟨m, rfl⟩ : ∃ m, n = m + 1 := ⟨n - 1, by omega⟩
    simp only [rdS, rd_at, h3, rdO_row]
    rw [if_pos ⟨Nat.le_refl _, Nat.le_refl _, by omega⟩]
    simp [← h4]
theorem Acc.keep {S T : AS} {lo : Nat} {v : AV} {sz e : Nat} {cs : List AV} (h : Acc S lo v sz e cs) (hs : ∀ id, lo ≤ id → id < S.next → T.h.get id = S.h.get id) (hn : S.next ≤ T.next) : Acc T lo v sz e cs := by
  rcases h with h | ⟨id, n, h0, h1, h2, h3, h4, h5⟩
  · exact .inl (h.keep hs hn)
  · exact .inr ⟨id, n, h0, h1, h2, Nat.lt_of_lt_of_le h3 hn, by rw [hs id h2 h3]; exact h4, h5⟩
theorem Acc.sub {S T : AS} {lo : Nat} {v : AV} {sz e : Nat} {cs : List AV} (h : Acc S lo v sz e cs) (hs : Sub S T) : Acc T lo v sz e cs := h.keep (fun id _ h2 => hs.h id h2) hs.next
/-- append, from whatever it is. -/
theorem append_acc {cx : Cx} {S : AS} {lo t u : Nat} {ts : List TypeId} {p : Nat × Nat × Nat} {v x : AV} {cs ds : List AV} {d : TypeDesc} (h : slT cx t = some p) (hu : und cx u = some d) (hd : notInt d = true)
    (ho : Acc S lo v p.2.1 p.1 cs) (hl : lo ≤ S.next) (hx : Sl S x p.2.1 ds) (hf : fits (sLen v + sLen x) p.2.2 = true) :
    ∃ v' T, builtinV cx S .append (t :: u :: ts) [v, x] = .val v' T ∧ Acc T lo v' p.2.1 p.1 (cs ++ ds) ∧ Stay lo S T ∧ (∀ id, id < S.next → id + 1 ≠ bnd v → T.h.get id = S.h.get id) ∧ sLen v' = sLen v + sLen x ∧ (isNil v' = (isNil v && decide (sLen x = 0))) ∧ (bnd v' = bnd v ∨ S.next < bnd v') := by
  rcases ho with ho | ⟨id, n, rfl, h0, h1, h2, h3, h4⟩
  · obtain ⟨v', T, r1, r2, r3⟩ := append_own (ts := ts) h hu hd ho hl hx hf
    exact ⟨v', T, r1, .inl r2, r3⟩
  · have ht := taken_sl hx
    have hlen := hx.len
    rw [append_run h hu hd]
    cases hn : sLen x with
    | zero =>
      rw [hn] at ht hlen
      have hds : ds = [] := by rw [Nat.zero_mul] at hlen; exact List.length_eq_zero_iff.1 hlen
      subst hds
      refine ⟨_, S, ?_, .inr ⟨id, n, rfl, h0, h1, h2, by simpa using h3, by simpa using h4⟩, Stay.refl, fun _ _ _ => rfl, by simp, by simp, .inl rfl⟩
      unfold appendV
      simp [ht, nbeq, vals?]
    | succ m =>
      rw [hn] at ht hlen hf
      simp only [sLen] at hf
      refine ⟨.slice S.next 0 0 (n + (m + 1)) ((n + (m + 1)) * p.2.1) p.2.1 none, ⟨S.h.set S.next (.row (cs ++ ds) 0 0 false p.1), S.next + 1⟩, ?_,
        .inl (.inr ⟨S.next, 0, 0, n + (m + 1), rfl, hl, Nat.lt_succ_self _, get_set_same _ _ _, Nat.le_refl _, by rw [List.length_append, h4, hlen]; exact (Nat.add_mul n (m + 1) p.2.1).symm⟩),
        Stay.refl.set hl (Nat.le_succ _), fun i hi _ => get_set_ne _ _ (by omega), rfl, by simp [isNil], .inr (by simp [bnd])⟩
      unfold appendV
      have e1 : Nat.add n (m + 1) = n + (m + 1) := rfl
      have e2 : Nat.mul n p.2.1 = n * p.2.1 := rfl
      have e3 : Nat.mul (n + (m + 1)) p.2.1 = (n + (m + 1)) * p.2.1 := rfl
      have e4 : decide (n + (m + 1) ≤ n) = false := by simp
      simp only [ht, nbeq, decide_true, cond_true, h3, nble, Nat.le_refl, Bool.and_self, forceN_eq, e1, hf, e2, e4, cond_false, grown, takeN_eq, dropN_eq, appL_eq, e3]
      rw [List.drop_zero, ← h4, List.take_length]
      rfl
theorem append_acc1 {cx : Cx} {S : AS} {lo t u : Nat} {ts : List TypeId} {p : Nat × Nat × Nat} {v y : AV} {cs : List AV} {d : TypeDesc} (h : slT cx t = some p) (h1 : p.2.1 = 1) (hu : und cx u = some d) (hd : notInt d = true)
    (ho : Acc S lo v 1 p.1 cs) (hl : lo ≤ S.next) (hf : fits (cs.length + 1) p.2.2 = true) :
    ∃ v' T, builtinV cx ⟨S.h.set S.next (.row [y] 0 0 false p.1), S.next + 1⟩ .append (t :: u :: ts) [v, .slice S.next 0 0 1 1 1 (some 1)] = .val v' T ∧ Acc T lo v' 1 p.1 (cs ++ [y]) ∧ Stay lo S T ∧
      (∀ id, id < S.next → id + 1 ≠ bnd v → T.h.get id = S.h.get id) ∧ sLen v' = cs.length + 1 ∧ isNil v' = false ∧ (bnd v' = bnd v ∨ S.next < bnd v') := by
  have hlen := ho.sl.len1
  obtain ⟨e, sz, bs⟩ := p
  simp only at h1
  subst h1
  have ho' : Acc (⟨S.h.set S.next (.row [y] 0 0 false e), S.next + 1⟩ : AS) lo v 1 e cs := ho.keep (fun id _ h2 => get_set_ne _ _ (by omega)) (Nat.le_succ _)
  have hx : Sl (⟨S.h.set S.next (.row [y] 0 0 false e), S.next + 1⟩ : AS) (.slice S.next 0 0 1 1 1 (some 1)) 1 [y] := by
    refine ⟨rfl, ?_, rfl, by simp [bnd]⟩
    simp [rdS, rd_at, get_set_same, rdO_row]
  obtain ⟨v', T, r1, r2, r3, r4, r5, r6, r7⟩ := append_acc (lo := lo) (ts := ts) h hu hd ho' (Nat.le_succ_of_le hl) hx (by rw [hlen]; exact hf)
  exact ⟨v', T, r1, r2, ⟨fun id hi => (r3.h id hi).trans (get_set_ne _ _ (by omega)), Nat.le_trans (Nat.le_succ _) r3.next⟩, fun id hi hne => (r4 id (Nat.lt_succ_of_lt hi) hne).trans (get_set_ne _ _ (by omega)), by rw [r5, hlen]; rfl, by rw [r6]; simp [sLen], r7.imp id (fun h => Nat.lt_of_succ_lt h)⟩

/-! ### Calls have one outcome -/
theorem CallW.ex {cx : Cx} {f : FuncId} {as : List AV} {S : AS} {P : AV → AS → Prop} (h : CallW cx f as S P) : ∃ v T, P v T ∧ ∀ Q : AV → AS → Prop, CallW cx f as S Q = Q v T := by
  obtain ⟨n, ⟨v, T⟩, e, hn, hp⟩ := h
  refine ⟨v, T, hp, fun Q => propext ⟨?_, fun hq => ⟨n, ⟨v, T⟩, e, hn, hq⟩⟩⟩
  rintro ⟨m, ⟨v', T'⟩, e', _, hq⟩
  have h1 := call_mono (cx := cx) (Nat.le_add_right n m) (.fn f) as S _ _ e
  have h2 := call_mono (cx := cx) (Nat.le_add_left m n) (.fn f) as S _ _ e'
  have h3 : (Res.ok (v, T) [] : Res (AV × AS)) = .ok (v', T') [] := h1.symm.trans h2
  cases h3
  exact hq
theorem CallW.eq {cx : Cx} {f : FuncId} {as : List AV} {S T : AS} {v : AV} (h : CallW cx f as S fun v' T' => v' = v ∧ T' = T) {Q : AV → AS → Prop} : CallW cx f as S Q = Q v T := by
  obtain ⟨v', T', ⟨rfl, rfl⟩, e⟩ := h.ex
  exact e Q

/-! ### Shapes -/
theorem Sl.np {S : AS} {v : AV} {sz : Nat} {cs : List AV} (h : Sl S v sz cs) : isPanB v = false := by rcases h.cases with rfl | ⟨_, _, _, _, _, _, rfl⟩ <;> rfl
theorem Sl.ok {S : AS} {v : AV} {sz : Nat} {cs : List AV} (h : Sl S v sz cs) : okV v = true := by rcases h.cases with rfl | ⟨_, _, _, _, _, _, rfl⟩ <;> rfl
theorem Sl.base {S : AS} {v : AV} {sz : Nat} {cs : List AV} (h : Sl S v sz cs) : baseV v = true := by rcases h.cases with rfl | ⟨_, _, _, _, _, _, rfl⟩ <;> rfl
theorem okV_pAt {v : AV} {k : Nat} : okV (pAt v k) = true := by cases v <;> rfl
theorem okW_ok {v : AV} (h : okV v = true) : okW v = true := by
  cases v <;> try exact h
  rename_i fn a b
  cases fn <;> simp [okV, baseV] at h
theorem okW_of {v : AV} (h : okV v = true) : okW v = true := okW_ok h
theorem okW_func {f : FuncId} {a b : List AV} : okW (.func (.func f) a b) = (baseL a && baseL b) := by simp [okW]
theorem okW_slice {a b c d e f : Nat} {g : Option Nat} : okW (.slice a b c d e f g) = true := rfl
theorem okW_ptr {a b c d : Nat} : okW (.ptr a b c d) = true := rfl
theorem okW_int {k : IntKind} {n : Int} : okW (.int k n) = true := rfl
theorem okW_bool {b : Bool} : okW (.bool b) = true := rfl
theorem okW_str {s : List Nat} : okW (.str s) = true := rfl
theorem okW_nils : okW .nils = true := rfl
theorem okW_nilp : okW .nilp = true := rfl
theorem okW_map {i : Nat} : okW (.map i) = true := rfl
theorem okW_nilm : okW .nilm = true := rfl
theorem okW_niface : okW .niface = true := rfl
theorem okW_agg {l : List AV} : okW (.agg l) = baseL l := rfl
theorem okW_tuple {l : List AV} : okW (.tuple l) = baseL l := rfl
theorem wrap_succ {i : Nat} (h : i < 9223372036854775807) : IntKind.i64.wrap ((i : Int) + 1) = ((i + 1 : Nat) : Int) := by
  rw [IntWalk.i64_in _ (by omega)]; omega
theorem wrap_nat {i : Nat} (h : i < 9223372036854775808) : IntKind.i64.wrap (i : Int) = (i : Int) := IntWalk.i64_in _ (by omega)
theorem take_more {α : Type} {l m : List α} {i : Nat} (h : l.take i = m.take i) (hl : i < l.length) (hm : i < m.length) (he : l[i] = m[i]) : l.take (i + 1) = m.take (i + 1) := by
  rw [List.take_succ_eq_append_getElem hl, List.take_succ_eq_append_getElem hm, h, he]

/-! ### Cells that are written -/
theorem rd_row {S : AS} {B g n : Nat} {cap : Option Nat} {vs : List AV} {low : Nat} {frz : Bool} {e : TypeId} (h : S.h.get B = some (.row vs low g frz e)) (hl : low ≤ g) (hn : vs.length = n) (hb : B < S.next) (hc : capB n cap = true) : Sl S (.slice B g 0 n n 1 cap) 1 vs := by
  refine ⟨by simp [isSl, hc], ?_, by rw [hn]; simp [sLen], hb⟩
  cases n with
  | zero => have : vs = [] := List.length_eq_zero_iff.1 hn; subst this; rfl
  | succ n => simp [rdS, rd_at, h, rdO_row, hl, ← hn]
theorem wr_row {S : AS} {B g n j : Nat} {cap : Option Nat} {vs : List AV} {x : AV} {low : Nat} {e : TypeId} (h : S.h.get B = some (.row vs low g false e)) (hn : vs.length = n) (hj : j < n) :
    wrV S (pAt (.slice B g 0 n n 1 cap) j) [x] = some ⟨S.h.set B (.row (vs.set j x) g g false e), S.next⟩ := by
  simp only [pAt, wrV_ptr, wr_at, h, wrO_row]
  rw [if_pos ⟨trivial, by simp; omega, trivial⟩]
  rw [Nat.zero_add, Nat.mul_one, splice_lit (by omega)]
  congr 4
  rw [List.set_eq_take_append_cons_drop, if_pos (by omega)]
  simp

/-! ### Parts of a slice -/
def subA (v : AV) (l h : Nat) : AV := match v with
  | .slice id g off _ lim sz none => .slice id g (off + l * sz) (h - l) lim sz none
  | .slice id g off _ lim sz (some c) => cutV id g off lim sz l h c
  | v => v
theorem sliceV_sub {cx : Cx} {F : Fr} {t : TypeId} {p : Nat × Nat × Nat} {v : AV} {lo hi : Option Operand} {l k : Nat} (h : slT cx t = some p) (hv : isSl p.2.1 v = true) (hl : bound F lo 0 = some l) (hh : bound F hi (sLen v) = some k) (h1 : l ≤ k) (h2 : k ≤ sLen v) :
    sliceV cx F t v lo hi none = some (subA v l k) := by
  obtain ⟨hu, hs, _⟩ := slT_und h
  cases v <;> simp only [isSl, Bool.false_eq_true] at hv
  · have hk : k = 0 := by simpa [sLen] using h2
    subst hk
    obtain rfl : l = 0 := by omega
    have hb : bounds F 0 0 lo hi none = some (0, 0, 0) := by
      unfold bounds
      have hh' : bound F hi 0 = some 0 := hh
      rw [hl, hh']
      rfl
    unfold sliceV
    simp only [hu, hs, hb]
    rfl
  · rename_i id g off len lim z cap
    simp only [Bool.and_eq_true, decide_eq_true_eq] at hv
    obtain ⟨hz, hc⟩ := hv
    subst hz
    simp only [sLen] at hh h2
    cases cap with
    | none =>
      have hb : bounds F len (roomOf len none) lo hi none = some (l, k, len) := by
        unfold bounds
        rw [hl, hh]
        have e : bound F none (roomOf len none) = some len := rfl
        rw [e]
        simp [nble, h1, h2, roomOf, isS]
      unfold sliceV
      simp only [hu, hs, hb, nbeq, decide_true, cond_true, forceN_eq]
      have e2 : (isS (none : Option Operand) || isS (none : Option Nat)) = false := rfl
      rw [e2]
      rfl
    | some c =>
      simp only [capB, decide_eq_true_eq] at hc
      have hb : bounds F len (roomOf len (some c)) lo hi none = some (l, k, c) := by
        unfold bounds
        rw [hl, hh]
        have e : bound F none (roomOf len (some c)) = some c := rfl
        rw [e]
        have : k ≤ c := by omega
        simp [nble, h1, this, roomOf, isS]
      unfold sliceV
      simp only [hu, hs, hb, nbeq, decide_true, cond_true]
      rfl
theorem bound_none {F : Fr} {d : Nat} : bound F none d = some d := by simp [bound]
theorem bound_some {F : Fr} {o : Operand} {d : Nat} : bound F (some o) d = natOf (eval F o) := by simp [bound]
theorem natOf_nat {k : IntKind} {n : Nat} : natOf (.int k (n : Int)) = some n := by simp [natOf]
theorem natOf_zero {k : IntKind} : natOf (.int k 0) = some 0 := by simp [natOf]
theorem natOf_one {k : IntKind} : natOf (.int k 1) = some 1 := by simp [natOf]
theorem subA_len {S : AS} {v : AV} {sz : Nat} {cs : List AV} (h : Sl S v sz cs) {l k : Nat} (h1 : l ≤ k) (h2 : k ≤ sLen v) : sLen (subA v l k) = k - l := by
  have hsl := h.sl
  rcases h.cases with rfl | ⟨id, g, off, n, lim, cap, rfl⟩
  · simp [sLen] at h2; subst h2; simp [subA, sLen]
  · cases cap with
    | none => simp [subA, sLen]
    | some c =>
      simp only [isSl, capB, Bool.and_eq_true, decide_eq_true_eq] at hsl
      simp only [sLen] at h2
      simp only [subA, cutV, nbeq]
      by_cases hc : c = l
      · simp [hc, sLen]; omega
      · simp [hc, sLen, forceN_eq]
theorem subA_nil {v : AV} {l k : Nat} : isNil (subA v l k) = isNil v := by
  cases v <;> try rfl
  rename_i id g off n lim sz cap
  cases cap with
  | none => rfl
  | some c =>
    simp only [subA, cutV, nbeq]
    by_cases hc : c = l
    · simp [hc, isNil]
    · simp [hc, forceN_eq, isNil]
theorem Sl.cut {S : AS} {v : AV} {sz : Nat} {cs : List AV} (h : Sl S v sz cs) {l k : Nat} (h1 : l ≤ k) (h2 : k ≤ sLen v) : Sl S (subA v l k) sz ((cs.drop (l * sz)).take ((k - l) * sz)) := by
  have hlen := subA_len h h1 h2
  have hcl : ((cs.drop (l * sz)).take ((k - l) * sz)).length = (k - l) * sz := by
    have h3 := h.len
    have h4 : l * sz + (k - l) * sz ≤ sLen v * sz := by rw [← Nat.add_mul]; exact Nat.mul_le_mul_right _ (by omega)
    simp; omega
  by_cases h0 : k - l = 0
  · have hnil : (cs.drop (l * sz)).take ((k - l) * sz) = [] := by rw [h0]; simp
    rw [hnil]
    rcases h.cases with rfl | ⟨id, g, off, n, lim, cap, rfl⟩
    · exact Sl.nil
    · have hold := h.old
      have hsl := h.sl
      cases cap with
      | none =>
        have e : subA (.slice id g off n lim sz none) l k = .slice id g (off + l * sz) (k - l) lim sz none := rfl
        rw [e, h0]
        exact ⟨by simp [isSl, capB], rfl, by simp [sLen], hold⟩
      | some c =>
        simp only [subA, cutV, nbeq]
        by_cases hc : c = l
        · simp only [hc, decide_true, cond_true]
          exact ⟨by simp [isSl, capB], rfl, by simp [sLen], hold⟩
        · simp only [hc, decide_false, cond_false, forceN_eq]
          have e : Nat.sub k l = 0 := h0
          rw [e]
          exact ⟨by simp [isSl, capB], rfl, by simp [sLen], hold⟩
  · obtain ⟨id, g, off, n, lim, cap, rfl, cells, low, top, frz, e, hg, g1, g2, g3, g4⟩ := rdS_some h (k := l) (by omega)
    have hold := h.old
    have hsl := h.sl
    simp only [sLen] at h2
    obtain ⟨m, hm⟩ : ∃ m, k - l = m + 1 := ⟨k - l - 1, by omega⟩
    have hle : l * sz + (k - l) * sz ≤ n * sz := by rw [← Nat.add_mul]; exact Nat.mul_le_mul_right _ (by omega)
    have key : ∀ cap', rdS S (.slice id g (off + l * sz) (k - l) lim sz cap') = some ((cs.drop (l * sz)).take ((k - l) * sz)) := by
      intro cap'
      rw [hm]
      simp only [rdS, rd_at, hg, rdO_row]
      rw [← hm, if_pos ⟨g1, g2, by omega⟩, ← g4, List.drop_take, List.take_take, Nat.min_eq_left (by omega), List.drop_drop]
    have fin : ∀ cap', capB (k - l) cap' = true → Sl S (.slice id g (off + l * sz) (k - l) lim sz cap') sz ((cs.drop (l * sz)).take ((k - l) * sz)) :=
      fun cap' hc => ⟨by simp [isSl, hc], key cap', by rw [hcl]; simp [sLen], hold⟩
    cases cap with
    | none => exact fin none rfl
    | some c =>
      simp only [isSl, capB, Bool.and_eq_true, decide_eq_true_eq] at hsl
      simp only [subA, cutV, nbeq]
      have hc : c ≠ l := by omega
      simp only [hc, decide_false, cond_false, forceN_eq]
      exact fin (some (Nat.sub c l)) (by show capB (k - l) (some (c - l)) = true; simp [capB]; omega)

/-! ### make -/
theorem repL_one (n : Nat) (z : AV) : repL n [z] = List.replicate n z := by
  induction n with
  | zero => rfl
  | succ n ih =>
    show appL [z] (repL n [z]) = _
    rw [appL_eq, ih]; rfl
theorem freshV_make {cx : Cx} {F : Fr} {t : TypeId} {p : Nat × Nat × Nat} {id : Nat} {l c : Operand} {z z' : AV} {n : Nat} (h : slT cx t = some p) (h1 : p.2.1 = 1) (hz : zeroOf cx p.1 = some z) (hc : cellsOf z = some [z']) (hl : natOf (eval F l) = some n) (hk : natOf (eval F c) = some n) (hf : fits n p.2.2 = true) :
    freshV cx F id (.makeSlice t l c) = some (.slice id 0 0 n n 1 (some n), .row (List.replicate n z') 0 0 false p.1) := by
  obtain ⟨hu, hs, hb, _, _⟩ := slT_und h
  obtain ⟨e, sz, bs⟩ := p
  simp only at h1 hu hs hb hz hf
  subst h1
  unfold freshV
  simp only [hu, hs, hb, hz, hc, hl, hk, hf, nble, Nat.le_refl, repL_one]
  have e1 : (Nat.beq (lenL [z']) (Nat.succ 0) && decide True && true) = true := rfl
  rw [e1]
  simp

/-! ### Pointers -/
section
variable {cx : Cx} {F : Fr} {S : AS} {t : TypeId}
variable {dst : Option Tmp} {ty : TypeId} {pos : String} {af : Array Edge} {gd : Option (Nat × Bool)}
noncomputable def ptT (cx : Cx) (t : TypeId) : Bool := match und cx t with | some (.pointer _) => true | _ => false
theorem ptT_und (h : ptT cx t = true) : ∃ e, und cx t = some (.pointer e) := by
  unfold ptT at h
  split at h
  · rename_i e hu; exact ⟨e, hu⟩
  · cases h
theorem eq_nilp {c : Bool} {a b d e : Nat} (h : ptT cx t = true) : binV cx .eql t c (.ptr a b d e) .nilp = some (.bool false) := by
  obtain ⟨u, hu⟩ := ptT_und h
  have e1 : eqT cx 6 t (.ptr a b d e) .nilp = some false := by
    show (match und cx t with | none => none | some d' => eqStep cx (eqT cx 5) t d' (.ptr a b d e) .nilp) = _
    rw [hu]; rfl
  simp [binV, eqV, oddA, e1]
theorem ne_nilp {c : Bool} {a b d e : Nat} (h : ptT cx t = true) : binV cx .neq t c (.ptr a b d e) .nilp = some (.bool true) := by
  obtain ⟨u, hu⟩ := ptT_und h
  have e1 : eqT cx 6 t (.ptr a b d e) .nilp = some false := by
    show (match und cx t with | none => none | some d' => eqStep cx (eqT cx 5) t d' (.ptr a b d e) .nilp) = _
    rw [hu]; rfl
  simp [binV, eqV, oddA, e1]
theorem eq_nilp0 {c : Bool} (h : ptT cx t = true) : binV cx .eql t c .nilp .nilp = some (.bool true) := by
  obtain ⟨u, hu⟩ := ptT_und h
  have e1 : eqT cx 6 t .nilp .nilp = some true := by
    show (match und cx t with | none => none | some d' => eqStep cx (eqT cx 5) t d' .nilp .nilp) = _
    rw [hu]; rfl
  simp [binV, eqV, oddA, e1]
theorem ne_nilp0 {c : Bool} (h : ptT cx t = true) : binV cx .neq t c .nilp .nilp = some (.bool false) := by
  obtain ⟨u, hu⟩ := ptT_und h
  have e1 : eqT cx 6 t .nilp .nilp = some true := by
    show (match und cx t with | none => none | some d' => eqStep cx (eqT cx 5) t d' .nilp .nilp) = _
    rw [hu]; rfl
  simp [binV, eqV, oddA, e1]
def nilCk (v : AV) : Option AV := match v with | .ptr a b c d => some (.ptr a b c d) | .func (.func f) a b => some (.func (.func f) a b) | .map i => some (.map i) | _ => none
theorem nilCk_ptr {a b c d : Nat} : nilCk (.ptr a b c d) = some (.ptr a b c d) := rfl
theorem nilCk_func {f : FuncId} {a b : List AV} : nilCk (.func (.func f) a b) = some (.func (.func f) a b) := rfl
theorem nilCk_map {i : Nat} : nilCk (.map i) = some (.map i) := rfl
theorem aop_nilCheck_at {x : Tmp} {v u : AV} (hx : sl F x = v) (h : nilCk v = some u) : aop cx F S ⟨dst, .nilCheck (.tmp x), ty, pos, af, gd⟩ = .val u S := by
  unfold nilCk at h
  split at h
  · cases h; exact aop_nilCheck_ptr ((eval_tmp F x).trans hx)
  · cases h; exact aop_nilCheck_func ((eval_tmp F x).trans hx)
  · cases h; simp only [aop, (eval_tmp F x).trans hx]
  · cases h
end

/-- The frame ahead of a region that draws, but for some slots forgotten. -/
theorem drawn_forget {cx : Cx} {ops : List Oper} {F : Fr} {S : AS} {Q : Fr → AS → Prop} (L : List Nat) (h : ∀ G, G.n = F.n → agree L G F → drawnP cx ops G S Q) : drawnP cx ops F S Q := forget (P := fun G => drawnP cx ops G S Q) L h
theorem code_forget {cx : Cx} {c : Code} {F : Fr} {S : AS} {Q : Ex → Fr → AS → Prop} (L : List Nat) (h : ∀ G, G.n = F.n → agree L G F → wpP cx c G S Q) : wpP cx c F S Q := forget (P := fun G => wpP cx c G S Q) L h

noncomputable def mapT (cx : Cx) (t : TypeId) : Bool := match und cx t with | some (.map _ _) => true | _ => false
theorem freshV_map {cx : Cx} {F : Fr} {t : TypeId} {id : Nat} (h : mapT cx t = true) : freshV cx F id (.makeMap t none) = some (.map id, .map [] 0) := by
  unfold mapT at h
  split at h
  · rename_i k e hu
    unfold freshV
    simp [hu, hintOk]
  · cases h

/-! ### Numbers of another type -/
noncomputable def convT (cx : Cx) (s d : TypeId) : Option IntKind := match und cx s, und cx d with | some _, some (.int k) => some k | _, _ => none
def intOf (v : AV) : Option Int := match v with | .int _ n => some n | _ => none
theorem intOf_int {k : IntKind} {n : Int} : intOf (.int k n) = some n := by simp [intOf]
theorem aop_conv {cx : Cx} {F : Fr} {S : AS} {dst : Option Tmp} {ty : TypeId} {pos : String} {af : Array Edge} {gd : Option (Nat × Bool)} {s d : TypeId} {x : Tmp} {v : AV} {k : IntKind} {n : Int}
    (hx : sl F x = v) (h : convT cx s d = some k) (hv : intOf v = some n) : aop cx F S ⟨dst, .convert s d (.tmp x), ty, pos, af, gd⟩ = .val (.int k (k.wrap n)) S := by
  unfold convT at h
  split at h
  · rename_i e k' h1 h2
    cases h
    cases v <;> simp [intOf] at hv
    subst hv
    exact aop_conv_int h1 h2 ((eval_tmp F x).trans hx)
  · cases h
theorem tmod_nat (a b : Nat) : Int.tmod (a : Int) (b : Int) = ((a % b : Nat) : Int) := rfl

theorem loop_forget {cx : Cx} {b : Code} {F : Fr} {S : AS} {Q : Ex → Fr → AS → Prop} (L : List Nat) (h : ∀ G, G.n = F.n → agree L G F → LoopP cx b G S Q) : LoopP cx b F S Q := forget (P := fun G => LoopP cx b G S Q) L h

/-- A region that draws, and what is known behind it. -/
theorem drawnP_mono {cx : Cx} {ops : List Oper} {F : Fr} {S : AS} {Q : Fr → AS → Prop} (P : Fr → AS → Prop) (h : drawnP cx ops F S P) (k : ∀ G T, P G T → Q G T) : drawnP cx ops F S Q := by
  have h1 := h.run
  refine ⟨?_⟩
  unfold drawnP0 at h1 ⊢
  cases hp : planR cx ops with
  | none => rw [hp] at h1; exact h1
  | some rows =>
    rw [hp] at h1
    exact rowsP_mono h1 fun G T sn hh => ⟨hh.1, k _ _ hh.2⟩

/-- What lies from lo on has stayed. -/
structure Above (lo : Nat) (S T : AS) : Prop where
  h : ∀ id, lo ≤ id → id < S.next → T.h.get id = S.h.get id
  next : S.next ≤ T.next
theorem Above.mono {lo lo' : Nat} {S T : AS} (h : Above lo S T) (hl : lo ≤ lo') : Above lo' S T := ⟨fun id h1 h2 => h.h id (Nat.le_trans hl h1) h2, h.next⟩
theorem Sl.above {S T : AS} {v : AV} {sz : Nat} {cs : List AV} {lo : Nat} (h : Sl S v sz cs) (hs : Above lo S T) (hb : bnd v = 0 ∨ lo < bnd v) : Sl T v sz cs := by
  refine ⟨h.sl, ?_, h.len, Nat.le_trans h.old hs.next⟩
  have hr := h.rd
  have ho := h.old
  rw [← hr]
  unfold rdS
  split <;> try rfl
  rename_i i g off n lim z _
  cases n with
  | zero => rfl
  | succ n =>
    simp only [bnd] at hb ho
    simp only [rd_at, hs.h i (by omega) (by omega)]
/-- A cell of a slice of the call's own is written. -/
theorem Own.put {S : AS} {lo e : Nat} {v x : AV} {cs : List AV} {i : Nat} (h : Own S lo v 1 e cs) (hi : i < cs.length) : ∃ T, wrV S (pAt v i) [x] = some T ∧ Own T lo v 1 e (cs.set i x) ∧ Stay lo S T ∧ T.next = S.next ∧ Above (bnd v) S T := by
  rcases h with ⟨rfl, rfl⟩ | ⟨id, g, low, n, rfl, h1, h2, h3, h4, h5⟩
  · simp at hi
  · have hn : cs.length = n := by omega
    refine ⟨⟨S.h.set id (.row (cs.set i x) g g false e), S.next⟩, ?_, .inr ⟨id, g, g, n, rfl, h1, h2, get_set_same _ _ _, Nat.le_refl _, by simp [h5]⟩, Stay.refl.set h1 (Nat.le_refl _), rfl, fun i hi _ => get_set_ne _ _ (by simp [bnd] at hi; omega), Nat.le_refl _⟩
    have := wr_row (S := S) (B := id) (g := g) (n := n) (j := i) (cap := none) (vs := cs) (x := x) (low := low) (e := e) h3 hn (by omega)
    rw [Nat.mul_one]
    exact this

/-! ### Numbers far from each other -/
theorem le_plus {m n k : Nat} (h : m ≤ n) : (m ≤ n + k) = True := by simp; omega
theorem lt_plus {m n k : Nat} (h : m < n) : (m < n + k) = True := by simp; omega
theorem ne_plus {m n k : Nat} (h : m < n) : (m = n + k) = False := by simp; omega
theorem ne_lt {m n : Nat} (h : m < n) : (m = n) = False := by simp; omega

theorem isSl_nils {z : Nat} : isSl z .nils = true := by simp [isSl, capB]
theorem isSl_slice {z a b c d e f : Nat} {g : Option Nat} : isSl z (.slice a b c d e f g) = (decide (f = z) && capB d g) := by simp [isSl, capB]
theorem capB_none {n : Nat} : capB n none = true := by simp [capB]
theorem capB_some {n c : Nat} : capB n (some c) = decide (n ≤ c) := by simp [capB]
theorem isNil_nils : isNil .nils = true := rfl
theorem isNil_slice {a b c d e f : Nat} {g : Option Nat} : isNil (.slice a b c d e f g) = false := rfl
theorem sLen_nils : sLen .nils = 0 := rfl
theorem sLen_slice {a b c d e f : Nat} {g : Option Nat} : sLen (.slice a b c d e f g) = d := rfl

theorem cellsOf_nilf : cellsOf .nilf = some [.nilf] := rfl
theorem cellsOf_nilm : cellsOf .nilm = some [.nilm] := rfl
theorem cellsOf_map {i : Nat} : cellsOf (.map i) = some [.map i] := rfl
theorem cellsOf_func {f : Fn} {a b : List AV} : cellsOf (.func f a b) = some [.func f a b] := rfl
theorem Sl.cells {S : AS} {v : AV} {sz : Nat} {cs : List AV} (h : Sl S v sz cs) : cellsOf v = some [v] := by rcases h.cases with rfl | ⟨_, _, _, _, _, _, rfl⟩ <;> rfl
attribute [simp] freshV_map intOf_int aop_conv sliceV_sub bound_none bound_some natOf_nat natOf_zero natOf_one freshV_make capB_none capB_some cellsOf_nilf cellsOf_nilm cellsOf_map cellsOf_func okV_pAt isSl_nils isSl_slice isNil_nils isNil_slice sLen_nils sLen_slice rowsW_nil rowsW_p rowsW_r rowsW_f rowsW_e wontP_app wontR_app wontF_app wontE_app stepV_free stepV_run stepV_skip stepV_undef stepA_free stepA_run stepA_skip stepA_undef freP_some valP_val aopIs_val reP_free reP_run reP_skip reP_undef
  okN_zero okN_back okN_keep liveN_zero liveN_succ decL_one decL_more decL reBack_zero reBack_cons reLive_nil reLive_cons freshC comL leftL comA memB okW_of okW_slice okW_ptr okW_int okW_bool okW_str okW_nils okW_nilp okW_map okW_nilm okW_niface okW_agg okW_tuple okW_func baseV baseL
  len_sl aop_index_sl aop_index_slc idxOf_int inA_int eq_nilp ne_nilp eq_nilp0 ne_nilp0 nilCk_ptr nilCk_func nilCk_map aop_nilCheck_at eq_nil ne_nil freshV_one freshV_none
end Go.Am
