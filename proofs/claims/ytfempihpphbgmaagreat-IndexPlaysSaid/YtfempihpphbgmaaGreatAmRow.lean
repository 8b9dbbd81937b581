/-
  The abstract machine: slices of unknown shape, as rules for simp.
-/
import Derived.Test.YtfempihpphbgmaaGreatAmHeap
import Derived.Test.YtfempihpphbgmaaGreatAmWin
noncomputable section
namespace Go.Am
open Go
set_option linter.unusedSimpArgs false
def jr (n : Nat) : Option Nat → Bool | none => true | some c => decide (n ≤ c)
def isSl (sz : Nat) : AV → Bool | .aH => true | .slice _ _ _ n _ z c => decide (z = sz) && jr n c | _ => false
def sLen : AV → Nat | .slice _ _ _ n _ _ _ => n | _ => 0
def isNil : AV → Bool | .aH => true | _ => false
def cJ : AV → Nat | .slice id .. => id + 1 | .ptr id .. => id + 1 | .map id => id + 1 | _ => 0
def rW (v : AV) (k : Nat) : AV := match v with | .slice id g off _ lim sz _ => .ptr id g (off + k * sz) lim | _ => .undef
def nC (S : AS) (v : AV) : Option (List AV) :=
 match v with
 | .aH => some []
 | .slice id g off n lim sz _ => match n with | 0 => some [] | n + 1 => rd S id g off ((n + 1) * sz) lim
 | _ => none
def kP (cx : Cx) (t : TypeId) : Option (Nat × Nat × Nat) :=
 match aZ cx t with
 | some (.slice e) => match aw cx e, bytesOf cx e with
  | some (z + 1), some bs => cond (eZ cx e (z + 1)) (some (e, z + 1, bs)) none
  | _, _ => none
 | _ => none
theorem fF {cx : Cx} {t : TypeId} {p : Nat × Nat × Nat} (h : kP cx t = some p) : aZ cx t = some (.slice p.1) ∧ aw cx p.1 = some p.2.1 ∧ bytesOf cx p.1 = some p.2.2 ∧ eZ cx p.1 p.2.1 = true ∧ 0 < p.2.1 := by
 unfold kP at h
 split at h
 ·rename_i e hu
  split at h
  ·rename_i z bs hs hb
   cases hz : eZ cx e (z + 1) with
   | false => rw [hz] at h; cases h
   | true =>
    rw [hz] at h
    cases h
    exact ⟨hu, hs, hb, hz, Nat.succ_pos _⟩
  ·cases h
 ·cases h
def idxOf : AV → Nat | .int _ n => n.toNat | _ => 0
def inA (u : AV) (n : Nat) : Bool := match u with | .int _ m => decide (0 ≤ m) && decide (m < n) | _ => false
theorem idxOf_int {k : IntKind} {n : Int} : idxOf (.int k n) = n.toNat := rfl
theorem inA_nat {u : AV} {n : Nat} (h : inA u n = true) : ∃ (k : IntKind) (i : Nat), u = .int k i ∧ i < n := by
 cases u <;> simp only [inA, Bool.false_eq_true, Bool.and_eq_true, decide_eq_true_eq] at h
 rename_i k m;exact ⟨k, m.toNat, by rw [Int.toNat_of_nonneg h.1], by omega⟩
theorem inA_int {k : IntKind} {m : Int} {n : Nat} : inA (.int k m) n = (decide (0 ≤ m) && decide (m < n)) := by simp [inA]
structure Sl (S : AS) (v : AV) (sz : Nat) (cs : List AV) : Prop where
 sl : isSl sz v = true
 rd : nC S v = some cs
 len : cs.length = sLen v * sz
 old : cJ v ≤ S.next
theorem rdS_set {S : AS} {v : AV} {id n : Nat} {o : bW} (h : cJ v ≤ id) : nC ⟨S.h.set id o, n⟩ v = nC S v := by
 unfold nC
 split <;> try rfl
 rename_i i g off n lim sz _
 cases n with
 | zero => rfl
 | succ n =>
  have bO : i ≠ id := by simp only [cJ] at h; omega
  simp only [fV, ae _ _ bO]
theorem rdS_ne {S : AS} {v : AV} {id n : Nat} {o : bW} (h : cJ v ≠ id + 1) : nC ⟨S.h.set id o, n⟩ v = nC S v := by
 unfold nC
 split <;> try rfl
 rename_i i g off n lim sz _
 cases n with
 | zero => rfl
 | succ n =>
  have bO : i ≠ id := by simp only [cJ] at h; omega
  simp only [fV, ae _ _ bO]
theorem rdS_sub {S T : AS} {v : AV} {lo : Nat} (hs : ∀ id, id < lo → T.h.get id = S.h.get id) (h : cJ v ≤ lo) : nC T v = nC S v := by
 unfold nC
 split <;> try rfl
 rename_i i g off n lim sz _
 cases n with
 | zero => rfl
 | succ n =>
  have aL : i < lo := by simp only [cJ] at h; omega
  simp only [fV, hs i aL]
theorem Sl.sub {S T : AS} {v : AV} {sz : Nat} {cs : List AV} {lo : Nat} (h : Sl S v sz cs) (hs : ∀ id, id < lo → T.h.get id = S.h.get id) (hn : S.next ≤ T.next) (hb : cJ v ≤ lo) : Sl T v sz cs :=
 ⟨h.sl, by rw [rdS_sub hs hb]; exact h.rd, h.len, Nat.le_trans h.old hn⟩
theorem Sl.toSub {S T : AS} {v : AV} {sz : Nat} {cs : List AV} (h : Sl S v sz cs) (hs : Sub S T) : Sl T v sz cs := h.sub hs.h hs.next h.old
theorem Sl.beside {S : AS} {v : AV} {sz : Nat} {cs : List AV} (h : Sl S v sz cs) {id n : Nat} {o : bW} (hb : cJ v ≠ id + 1) (hn : S.next ≤ n) : Sl ⟨S.h.set id o, n⟩ v sz cs :=
 ⟨h.sl, by rw [rdS_ne hb]; exact h.rd, h.len, Nat.le_trans h.old hn⟩
theorem Sl.nil {S : AS} {sz : Nat} : Sl S .aH sz [] := ⟨rfl, rfl, by simp [sLen], Nat.zero_le _⟩
theorem Sl.sm {S : AS} {v : AV} {cs : List AV} (h : Sl S v 1 cs) : sLen v = cs.length := by have := h.len; omega
theorem Sl.isNil {S : AS} {v : AV} {sz : Nat} {cs : List AV} (h : Sl S v sz cs) (hn : isNil v = true) : v = .aH ∧ cs = [] := by
 cases v <;> simp only [Am.isNil, Bool.false_eq_true] at hn
 have := h.rd;exact ⟨rfl, by simp only [nC, Option.some.injEq] at this; exact this.symm⟩
theorem Sl.cases {S : AS} {v : AV} {sz : Nat} {cs : List AV} (h : Sl S v sz cs) : v = .aH ∨ ∃ id g off n lim cap, v = .slice id g off n lim sz cap := by
 have := h.sl
 cases v <;> simp only [isSl, Bool.false_eq_true] at this
 ·exact .inl rfl
 ·rename_i id g off n lim z cap
  simp only [Bool.and_eq_true, decide_eq_true_eq] at this;obtain ⟨this, _⟩ := this;subst this;exact .inr ⟨id, g, off, n, lim, cap, rfl⟩
section
variable {cx : Cx} {F : Fr} {S : AS} {t : TypeId} {p : Nat × Nat × Nat} {v : AV}
variable {dst : Option Tmp} {ty : TypeId} {pos : String} {af : Array Edge} {gd : Option (Nat × Bool)}
theorem len_sl {ts : List TypeId} {as : List AV} (h : kP cx t = some p) (hv : isSl p.2.1 v = true) : aJ cx S .len (t :: ts) (v :: as) = .val (.int .i64 (sLen v)) S := by
 obtain ⟨hu, _⟩ := fF h
 cases v <;> simp only [isSl, Bool.false_eq_true] at hv
 ·exact len_nils hu
 ·exact eW hu
theorem Ba {x ix : Tmp} {u : AV} (hx : sl F x = v) (hi : sl F ix = u) (h : kP cx t = some p) (hv : isSl p.2.1 v = true) (hn : inA u (sLen v) = true) :
  bq cx F S ⟨dst, .indexAddr t (.tmp x) (.tmp ix), ty, pos, af, gd⟩ = .val (rW v (idxOf u)) S := by
 obtain ⟨hu, hs, _⟩ := fF h;obtain ⟨k, i, rfl, b9⟩ := inA_nat hn
 cases v <;> simp only [isSl, Bool.false_eq_true] at hv
 ·simp [sLen] at b9
 ·rename_i id g off len lim z cap
  simp only [Bool.and_eq_true, decide_eq_true_eq] at hv;replace hv := hv.1;rw [pF (i := i) ((ay F x).trans hx) hu (by rw [hs, hv]) ((ay F ix).trans hi) rfl b9]
  rfl
theorem xT {x : Tmp} {k : IntKind} {m : Int} (hx : sl F x = v) (h : kP cx t = some p) (hv : isSl p.2.1 v = true) (hn : inA (.int k m) (sLen v) = true) :
  bq cx F S ⟨dst, .indexAddr t (.tmp x) (.const (.int k m)), ty, pos, af, gd⟩ = .val (rW v m.toNat) S := by
 obtain ⟨hu, hs, _⟩ := fF h;obtain ⟨k', i, e, b9⟩ := inA_nat hn
 cases e
 cases v <;> simp only [isSl, Bool.false_eq_true] at hv
 ·simp [sLen] at b9
 ·rename_i id g off len lim z cap
  simp only [Bool.and_eq_true, decide_eq_true_eq] at hv;replace hv := hv.1;rw [pF (i := i) ((ay F x).trans hx) hu (by rw [hs, hv]) (by rw [eval_const, ofV_int]) rfl b9]
  rfl
theorem ll {S : AS} {v : AV} {sz : Nat} {cs : List AV} (h : Sl S v sz cs) {k : Nat} (hk : k < sLen v) : ∃ id g off n lim cap, v = .slice id g off n lim sz cap ∧
  ∃ cells low top frz e, S.h.get id = some (.row cells low top frz e) ∧ low ≤ g ∧ g ≤ top ∧ off + n * sz ≤ lim ∧ (cells.drop off).take (n * sz) = cs := by
 rcases h.cases with rfl | ⟨id, g, off, n, lim, cap, rfl⟩
 ·simp [sLen] at hk
 ·have hr := h.rd
  simp only [sLen] at hk;obtain ⟨n, rfl⟩ : ∃ m, n = m + 1 := ⟨n - 1, by omega⟩
  simp only [nC, fV] at hr;refine ⟨id, g, off, n + 1, lim, cap, rfl, ?_⟩;unfold rdO at hr
  split at hr
  ·rename_i cells low top frz e hg
   split at hr
   ·rename_i hc
    exact ⟨cells, low, top, frz, e, hg, hc.1, hc.2.1, hc.2.2, by simpa using hr⟩
   ·cases hr
  ·cases hr
theorem lB {e : TypeId} {cs : List AV} {k : Nat} {x : AV} (h : Sl S v 1 cs) (hk : cs[k]? = some x) (ha : aE cx e = some false) : loadT cx S e (rW v k) = some x := by
 have DR : k < sLen v := by rw [h.sm]; exact (List.getElem?_eq_some_iff.1 hk).1
 obtain ⟨id, g, off, n, lim, cap, rfl, cells, low, top, frz, e', hg, h1, h2, h3, h4⟩ := ll h DR;simp only [sLen] at DR;simp only [rW, lC, nK, ha, sh, hg, dQ];rw [if_pos ⟨h1, h2, by omega⟩]
 have : (cells.drop (off + k * 1)).take 1 = [x] := by
  rw [← h4, List.getElem?_take, if_pos (by omega), List.getElem?_drop] at hk
  rw [Nat.mul_one, List.take_one, List.head?_drop, hk]; rfl
 rw [this]; rfl
theorem loadT_agg {e : TypeId} {cs : List AV} {k sz : Nat} (h : Sl S v sz cs) (hk : k < sLen v) (ha : aE cx e = some true) (hs : aw cx e = some sz) : loadT cx S e (rW v k) = some (.agg ((cs.drop (k * sz)).take sz)) := by
 obtain ⟨id, g, off, n, lim, cap, rfl, cells, low, top, frz, e', hg, h1, h2, h3, h4⟩ := ll h hk;simp only [sLen] at hk;have hle : k * sz + sz ≤ n * sz := by rw [← Nat.succ_mul]; exact Nat.mul_le_mul_right _ hk
 simp only [rW, lC, nK, ha, hs, sk, hg, dQ];rw [if_pos ⟨h1, h2, by omega⟩]
 simp only [te, Option.some.injEq, AV.agg.injEq];rw [← h4, List.drop_take, List.take_take, Nat.min_eq_left (by omega), List.drop_drop]
theorem eq_nil {c : Bool} (h : kP cx t = some p) (hv : isSl p.2.1 v = true) : cK cx .eql t c v .aH = some (.bool (isNil v)) := by
 obtain ⟨hu, _⟩ := fF h;have e : sO cx 6 t v .aH = some (isNil v) := by
  show (match aZ cx t with | none => none | some d => gz cx (sO cx 5) t d v .aH) = _
  rw [hu]
  cases v <;> simp only [isSl, Bool.false_eq_true] at hv <;> rfl
 cases v <;> simp only [isSl, Bool.false_eq_true] at hv <;> simp [cK, DW, pN, e]
theorem ne_nil {c : Bool} (h : kP cx t = some p) (hv : isSl p.2.1 v = true) : cK cx .neq t c v .aH = some (.bool (!isNil v)) := by
 obtain ⟨hu, _⟩ := fF h;have e : sO cx 6 t v .aH = some (isNil v) := by
  show (match aZ cx t with | none => none | some d => gz cx (sO cx 5) t d v .aH) = _
  rw [hu]
  cases v <;> simp only [isSl, Bool.false_eq_true] at hv <;> rfl
 cases v <;> simp only [isSl, Bool.false_eq_true] at hv <;> simp [cK, DW, pN, e]
def bldS (cx : Cx) (t : TypeId) (n : Nat) (l : List AV) (id : Nat) : Option (AV × bW) := match kP cx t with
 | some p => if p.2.1 = 1 ∧ l.length = n ∧ n ≤ 16777216 then some (.slice id 0 0 n n 1 (some n), .row l 0 0 false p.1) else none
 | none => none
end
theorem y9 {F : Fr} {cx : Cx} : ∀ (l : List (Nat × Operand)) (k : Nat) (pre z : List AV) (vs : List AV), pre.length = k → l.map (·.1) = List.range' k l.length → l.map (fun p => cellsOf (eval F p.2)) = vs.map (fun v => some [v]) → z.length = l.length →
  ew cx F (fun i => some (Nat.mul i 1, 1)) l (pre ++ z) = some (pre ++ vs)
 | [], k, pre, z, vs, _, _, hv, hz => by
  cases vs with
  | nil => have : z = [] := List.length_eq_zero_iff.1 hz; subst this; rfl
  | cons v vs => simp at hv
 | q :: l, k, pre, z, vs, hp, hi, hv, hz => by
  cases vs with
  | nil => simp at hv
  | cons v vs =>
   cases z with
   | nil => simp at hz
   | cons y z =>
    simp only [List.map_cons, List.cons.injEq, List.length_cons, List.range'_succ] at hi hv hz;show (match (some (Nat.mul q.1 1, 1) : Option (Nat × Nat)), cellsOf (eval F q.2) with
     | some (off, size), some new => cond (Nat.beq (cZ new) size && Nat.ble (Nat.add off size) (cZ (pre ++ y :: z))) (ew cx F (fun i => some (Nat.mul i 1, 1)) l (dg off (pre ++ y :: z) new)) none
     | _, _ => none) = _
    rw [hv.1, hi.1];simp only [aU, aK, cg, List.length_cons, List.length_nil, List.length_append];have h1 : Nat.mul k 1 = k := Nat.mul_one k;rw [h1];have h2 : decide (Nat.add k 1 ≤ pre.length + (z.length + 1)) = true := by
     rw [decide_eq_true_eq]; show k + 1 ≤ _; omega
    rw [h2];simp only [Nat.zero_add, decide_true, Bool.and_self, cond_true];have h3 : dg k (pre ++ y :: z) [v] = (pre ++ [v]) ++ z := by
     rw [fE _ _ _ (by simp; omega)]
     subst hp;simp
    rw [h3, y9 l (k + 1) (pre ++ [v]) z vs (by simp [hp]) hi.2 hv.2 (by omega)]
    simp
section
variable {cx : Cx} {F : Fr} {S : AS} {t : TypeId} {p : Nat × Nat × Nat} {id : Nat}
theorem pZ {v : Operand} {x : AV} (h : kP cx t = some p) (h1 : p.2.1 = 1) (hx : cellsOf (eval F v) = some [x]) : aI cx F id (.buildSlice t 1 #[(0, v)]) = some (.slice id 0 0 1 1 1 (some 1), .row [x] 0 0 false p.1) := by
 obtain ⟨hu, hs, hb, hz, hp⟩ := fF h;obtain ⟨e, sz, bs⟩ := p;simp only at h1 hu hs hb hz;subst h1;unfold eZ at hz
 cases sw : zeroOf cx e with
 | none => rw [sw] at hz; cases hz
 | some z =>
  rw [sw] at hz
  cases hc : cellsOf z with
  | none => simp [hc] at hz
  | some zl =>
   simp only [hc] at hz;simp only [aK, aU, decide_eq_true_eq] at hz;obtain ⟨y, rfl⟩ : ∃ y, zl = [y] := by
    cases zl with
    | nil => simp at hz
    | cons y l => cases l with
     | nil => exact ⟨y, rfl⟩
     | cons _ _ => simp at hz
   unfold aI;simp only [hu, hs, sw, hc];have hf : ew cx F (fun i => some (Nat.mul i 1, 1)) [(0, v)] [y] = some [x] := by
    have := y9 (cx := cx) (F := F) [(0, v)] 0 [] [y] [x] rfl rfl (by simp [hx]) rfl
    simpa using this
   have hr : fG 1 [y] = [y] := rfl;have hb : (Nat.beq (cZ [y]) (Nat.succ 0) && Nat.ble (Nat.mul 1 (Nat.succ 0)) 16777216) = true := rfl;rw [hb];simp only [cond_true];show (match ew cx F (fun i => some (Nat.mul i 1, 1)) [(0, v)] (fG 1 [y]) with | some cells => some (AV.slice id 0 0 1 1 1 (some 1), bW.row cells 0 0 false e) | none => none) = _
   rw [hr, hf]
theorem tF (h : kP cx t = some p) : aI cx F id (.buildSlice t 0 #[]) = some (.slice id 0 0 0 0 p.2.1 (some 0), .row [] 0 0 false p.1) := by
 obtain ⟨hu, hs, hb, hz, hp⟩ := fF h;obtain ⟨e, sz, bs⟩ := p;simp only at hu hs hb hz hp;obtain ⟨z0, rfl⟩ : ∃ z0, sz = z0 + 1 := ⟨sz - 1, by omega⟩
 unfold eZ at hz
 cases sw : zeroOf cx e with
 | none => rw [sw] at hz; cases hz
 | some z =>
  rw [sw] at hz
  cases hc : cellsOf z with
  | none => simp [hc] at hz
  | some zl =>
   simp only [hc] at hz;simp only [aK, aU, decide_eq_true_eq] at hz;unfold aI;simp only [hu, hs, sw, hc];have hb : (Nat.beq (cZ zl) (Nat.succ z0) && Nat.ble (Nat.mul 0 (Nat.succ z0)) 16777216) = true := by
    simp [aK, cg, aU, hz]
   rw [hb];simp only [cond_true];show some (AV.slice id 0 0 0 (Nat.mul 0 (Nat.succ z0)) (Nat.succ z0) (some 0), bW.row [] 0 0 false e) = _;rw [show Nat.mul 0 (Nat.succ z0) = 0 from Nat.zero_mul _]
end
def Own (S : AS) (lo : Nat) (v : AV) (sz e : Nat) (cs : List AV) : Prop :=
 (v = .aH ∧ cs = []) ∨ ∃ id g low n, v = .slice id g 0 n (n * sz) sz none ∧ lo ≤ id ∧ id < S.next ∧ S.h.get id = some (.row cs low g false e) ∧ low ≤ g ∧ cs.length = n * sz
theorem Own.sl {S : AS} {lo : Nat} {v : AV} {sz e : Nat} {cs : List AV} (h : Own S lo v sz e cs) : Sl S v sz cs := by
 rcases h with ⟨rfl, rfl⟩ | ⟨id, g, low, n, rfl, h1, h2, h3, h4, h5⟩
 ·exact Sl.nil
 ·refine ⟨by simp [isSl, jr], ?_, by simp [sLen, h5], by simp [cJ]; omega⟩
  cases n with
  | zero => simp at h5; simp [nC, h5]
  | succ n =>
   simp only [nC, fV, h3, dQ];rw [if_pos ⟨h4, Nat.le_refl _, by omega⟩]
   simp [← h5]
theorem Own.bm {S T : AS} {lo : Nat} {v : AV} {sz e : Nat} {cs : List AV} (h : Own S lo v sz e cs) (hs : ∀ id, lo ≤ id → id < S.next → T.h.get id = S.h.get id) (hn : S.next ≤ T.next) : Own T lo v sz e cs := by
 rcases h with h | ⟨id, g, low, n, h0, h1, h2, h3, h4, h5⟩
 ·exact .inl h
 ·exact .inr ⟨id, g, low, n, h0, h1, Nat.lt_of_lt_of_le h2 hn, by rw [hs id h1 h2]; exact h3, h4, h5⟩
theorem Own.sub {S T : AS} {lo : Nat} {v : AV} {sz e : Nat} {cs : List AV} (h : Own S lo v sz e cs) (hs : Sub S T) : Own T lo v sz e cs := h.bm (fun id _ h2 => hs.h id h2) hs.next
theorem Own.nil {S : AS} {lo sz e : Nat} : Own S lo .aH sz e [] := .inl ⟨rfl, rfl⟩
theorem Own.og {S : AS} {lo sz e : Nat} {v : AV} {cs : List AV} (h : Own S lo v sz e cs) : cJ v = 0 ∨ (lo < cJ v ∧ cJ v ≤ S.next) := by
 rcases h with ⟨rfl, _⟩ | ⟨id, g, low, n, rfl, h1, h2, _⟩
 ·exact .inl rfl
 ·exact .inr ⟨Nat.lt_succ_of_le h1, h2⟩
structure kk (lo : Nat) (S T : AS) : Prop where
 h : ∀ id, id < lo → T.h.get id = S.h.get id
 next : S.next ≤ T.next
theorem kk.refl {lo : Nat} {S : AS} : kk lo S S := ⟨fun _ _ => rfl, Nat.le_refl _⟩
theorem kk.trans {lo : Nat} {A B C : AS} (h : kk lo A B) (k : kk lo B C) : kk lo A C := ⟨fun id hi => (k.h id hi).trans (h.h id hi), Nat.le_trans h.next k.next⟩
theorem kk.mono {lo lo' : Nat} {S T : AS} (h : kk lo S T) (hl : lo' ≤ lo) : kk lo' S T := ⟨fun id hi => h.h id (Nat.lt_of_lt_of_le hi hl), h.next⟩
theorem Sub.stay {S T : AS} (h : Sub S T) {lo : Nat} (hl : lo ≤ S.next) : kk lo S T := ⟨fun id hi => h.h id (Nat.lt_of_lt_of_le hi hl), h.next⟩
theorem kk.set {lo : Nat} {A S : AS} (h : kk lo A S) {id n : Nat} {o : bW} (hi : lo ≤ id) (hn : S.next ≤ n) : kk lo A ⟨S.h.set id o, n⟩ :=
 ⟨fun i aL => by show (S.h.set id o).get i = _; rw [ae _ _ (by omega)]; exact h.h i aL, Nat.le_trans h.next hn⟩
theorem Sl.stay {S T : AS} {v : AV} {sz : Nat} {cs : List AV} {lo : Nat} (h : Sl S v sz cs) (hs : kk lo S T) (hb : cJ v ≤ lo) : Sl T v sz cs := h.sub hs.h hs.next hb
def rY (d : TypeDesc) : Bool := match d with | .int _ => false | _ => true
theorem mI {cx : Cx} {S : AS} {lo t u : Nat} {ts : List TypeId} {p : Nat × Nat × Nat} {v x : AV} {cs ds : List AV} {d : TypeDesc} (h : kP cx t = some p) (hu : aZ cx u = some d) (hd : rY d = true)
  (ho : Own S lo v p.2.1 p.1 cs) (hl : lo ≤ S.next) (hx : Sl S x p.2.1 ds) (hf : fits (sLen v + sLen x) p.2.2 = true) :
  ∃ v' T, aJ cx S .append (t :: u :: ts) [v, x] = .val v' T ∧ Own T lo v' p.2.1 p.1 (cs ++ ds) ∧ kk lo S T ∧ (∀ id, id < S.next → id + 1 ≠ cJ v → T.h.get id = S.h.get id) ∧ sLen v' = sLen v + sLen x ∧ (isNil v' = (isNil v && decide (sLen x = 0))) ∧ (cJ v' = cJ v ∨ S.next < cJ v') := by
 obtain ⟨ht, hs, hb, hz, hp⟩ := fF h;obtain ⟨e, sz, bs⟩ := p;simp only at ht hs hb hz hp ho hx hf;obtain ⟨z, rfl⟩ : ∃ z, sz = z + 1 := ⟨sz - 1, by omega⟩
 have wY : aJ cx S .append (t :: u :: ts) [v, x] = b8 (bc S e (z + 1) bs v x) 4 := by
  show (match aZ cx t, aZ cx u with
   | some (.slice e), some (.int _) => b8 (ta cx S e v x) 3
   | some (.slice e), some _ => match aw cx e, bytesOf cx e with
    | some (Nat.succ z), some bs => cond (eZ cx e (Nat.succ z)) (b8 (bc S e (Nat.succ z) bs v x) 4) (AR.err 13)
    | _, _ => AR.err 5
   | _, _ => AR.err 6) = _
  rw [ht, hu]
  cases d <;> first | (cases hd; done) | simp only [hs, hb, hz, cond_true]
 have hkey : ∀ v' T, bc S e (z + 1) bs v x = some (v', T) → aJ cx S .append (t :: u :: ts) [v, x] = .val v' T := fun v' T hh => by rw [wY, hh]; rfl
 have pD : taken S (z + 1) x = some (sLen x, ds) := by
  rcases hx.cases with rfl | ⟨id, g, off, n, lim, cap, rfl⟩
  ·have := hx.rd
   simp only [nC, Option.some.injEq] at this;subst this; rfl
  ·have := hx.rd
   unfold taken;simp only [aK, decide_true, cond_true, sLen]
   cases n with
   | zero => simp only [nC, Option.some.injEq] at this; subst this; rfl
   | succ n =>
    simp only [nC] at this;have e1 : Nat.mul (n + 1) (z + 1) = (n + 1) * (z + 1) := rfl;simp only [e1, this]
 have hlen := hx.len
 cases hn : sLen x with
 | zero =>
  have vS : ds = [] := by rw [hn, Nat.zero_mul] at hlen; exact List.length_eq_zero_iff.1 hlen
  subst vS;refine ⟨v, S, hkey _ _ ?_, by simpa using ho, kk.refl, fun _ _ _ => rfl, by simp, by simp, .inl rfl⟩
  unfold bc;simp only [pD, hn];rcases ho with ⟨rfl, rfl⟩ | ⟨id, g, low, n, rfl, _⟩
  ·rfl
  ·simp [aK]
 | succ m =>
  rw [hn] at pD hf hlen;rcases ho with ⟨rfl, rfl⟩ | ⟨id, g, low, n, rfl, h1, h2, h3, h4, h5⟩
  ·refine ⟨.slice S.next 0 0 (m + 1) ((m + 1) * (z + 1)) (z + 1) none, ⟨S.h.set S.next (.row ds 0 0 false e), S.next + 1⟩, hkey _ _ ?_, .inr ⟨S.next, 0, 0, m + 1, rfl, hl, Nat.lt_succ_self _, aa _ _ _, Nat.le_refl _, hlen⟩,
    kk.refl.set hl (Nat.le_succ _), fun i hi _ => ae _ _ (by omega), by simp [sLen], by simp [isNil], .inr (by simp [cJ])⟩
   unfold bc;simp only [pD];have xz : fits (m + 1) bs = true := by simpa [sLen] using hf
   rw [xz]
   rfl
  ·refine ⟨.slice id (g + 1) 0 (n + (m + 1)) ((n + (m + 1)) * (z + 1)) (z + 1) none, ⟨S.h.set id (.row (cs ++ ds) low (g + 1) false e), S.next⟩, hkey _ _ ?_,
    .inr ⟨id, g + 1, low, n + (m + 1), rfl, h1, h2, aa _ _ _, Nat.le_succ_of_le h4, by rw [List.length_append, h5, hlen]; exact (Nat.add_mul n (m + 1) (z + 1)).symm⟩,
    kk.refl.set h1 (Nat.le_refl _), fun i hi bO => ae _ _ (fun e => bO (by simp [cJ, e])), by simp [sLen], by simp [isNil], .inl rfl⟩
   unfold bc;simp only [pD];have xz : fits (n + (m + 1)) bs = true := by simpa [sLen] using hf
   have e1 : Nat.mul n (z + 1) = n * (z + 1) := rfl;have e2 : Nat.mul (n + (m + 1)) (z + 1) = (n + (m + 1)) * (z + 1) := rfl;simp only [aK, decide_true, cond_true, h3, cg, h4, Nat.le_refl, Bool.and_self, aC, Bool.not_true, Bool.or_false, cond_false, aU, h5, e1];have e3 : Nat.add n (m + 1) = n + (m + 1) := rfl;simp only [e3, e2, xz, cond_true, bd]
theorem taken_sl {S : AS} {x : AV} {sz : Nat} {ds : List AV} (h : Sl S x sz ds) : taken S sz x = some (sLen x, ds) := by
 rcases h.cases with rfl | ⟨id, g, off, n, lim, cap, rfl⟩
 ·have := h.rd
  simp only [nC, Option.some.injEq] at this;subst this; rfl
 ·have := h.rd
  unfold taken;simp only [aK, decide_true, cond_true, sLen]
  cases n with
  | zero => simp only [nC, Option.some.injEq] at this; subst this; rfl
  | succ n =>
   simp only [nC] at this;have e1 : Nat.mul (n + 1) sz = (n + 1) * sz := rfl;simp only [e1, this]
theorem append_run {cx : Cx} {S : AS} {t u : Nat} {ts : List TypeId} {p : Nat × Nat × Nat} {v x : AV} {d : TypeDesc} (h : kP cx t = some p) (hu : aZ cx u = some d) (hd : rY d = true) :
  aJ cx S .append (t :: u :: ts) [v, x] = b8 (bc S p.1 p.2.1 p.2.2 v x) 4 := by
 obtain ⟨ht, hs, hb, hz, hp⟩ := fF h;obtain ⟨e, sz, bs⟩ := p;simp only at ht hs hb hz hp;obtain ⟨z, rfl⟩ : ∃ z, sz = z + 1 := ⟨sz - 1, by omega⟩
 show (match aZ cx t, aZ cx u with
  | some (.slice e), some (.int _) => b8 (ta cx S e v x) 3
  | some (.slice e), some _ => match aw cx e, bytesOf cx e with
   | some (Nat.succ z), some bs => cond (eZ cx e (Nat.succ z)) (b8 (bc S e (Nat.succ z) bs v x) 4) (AR.err 13)
   | _, _ => AR.err 5
  | _, _ => AR.err 6) = _
 rw [ht, hu]
 cases d <;> first | (cases hd; done) | simp only [hs, hb, hz, cond_true]
theorem append_empty {cx : Cx} {S : AS} {t u id : Nat} {ts : List TypeId} {p : Nat × Nat × Nat} {e0 : Nat} {x : AV} {ds : List AV} {d : TypeDesc} (h : kP cx t = some p) (hu : aZ cx u = some d) (hd : rY d = true)
  (bY : S.h.get id = some (.row [] 0 0 false e0)) (aL : id < S.next) (hx : Sl S x p.2.1 ds) (hf : fits (sLen x) p.2.2 = true) :
  ∃ v' T, aJ cx S .append (t :: u :: ts) [.slice id 0 0 0 0 p.2.1 (some 0), x] = .val v' T ∧ Sl T v' p.2.1 ds ∧ Sub S T ∧ isNil v' = false ∧ sLen v' = sLen x ∧ (sLen x ≠ 0 → Own T S.next v' p.2.1 p.1 ds) ∧ (cJ v' = id + 1 ∨ S.next < cJ v') := by
 have ht := taken_sl hx;have hlen := hx.len;rw [append_run h hu hd]
 cases hn : sLen x with
 | zero =>
  rw [hn] at ht hlen;have vS : ds = [] := by rw [Nat.zero_mul] at hlen; exact List.length_eq_zero_iff.1 hlen
  subst vS;refine ⟨.slice id 0 0 0 0 p.2.1 (some 0), S, ?_, ⟨by simp [isSl, jr], rfl, by simp [sLen], by simp [cJ]; omega⟩, Sub.refl S, rfl, rfl, fun h => absurd rfl h, .inl rfl⟩
  unfold bc;simp [ht, aK, b8]
 | succ m =>
  rw [hn] at ht hlen hf;have uf : Own (⟨S.h.set S.next (.row ds 0 0 false p.1), S.next + 1⟩ : AS) S.next (.slice S.next 0 0 (m + 1) ((m + 1) * p.2.1) p.2.1 none) p.2.1 p.1 ds :=
   .inr ⟨S.next, 0, 0, m + 1, rfl, Nat.le_refl _, Nat.lt_succ_self _, aa _ _ _, Nat.le_refl _, hlen⟩
  refine ⟨.slice S.next 0 0 (m + 1) ((m + 1) * p.2.1) p.2.1 none, _, ?_, uf.sl, ?_, rfl, rfl, fun _ => uf, .inr (by simp [cJ])⟩
  ·unfold bc
   have e1 : Nat.add 0 (m + 1) = m + 1 := Nat.zero_add _;have e2 : Nat.mul 0 p.2.1 = 0 := Nat.zero_mul _;have e3 : Nat.mul (m + 1) p.2.1 = (m + 1) * p.2.1 := rfl;simp only [ht, aK, decide_true, cond_true, bY, cg, Nat.le_refl, Bool.and_self, aC, e1, hf, e2];have e4 : decide (m + 1 ≤ 0) = false := by simp
   simp only [e4, cond_false, grown, bX, ck, bd, e3];simp [b8]
  ·exact (Sub.refl S).set _ _ (Nat.le_refl _) _ (Nat.le_succ _)
theorem qk {cx : Cx} {S : AS} {lo t u : Nat} {ts : List TypeId} {p : Nat × Nat × Nat} {v y : AV} {cs : List AV} {d : TypeDesc} (h : kP cx t = some p) (h1 : p.2.1 = 1) (hu : aZ cx u = some d) (hd : rY d = true)
  (ho : Own S lo v 1 p.1 cs) (hl : lo ≤ S.next) (hf : fits (cs.length + 1) p.2.2 = true) :
  ∃ v' T, aJ cx ⟨S.h.set S.next (.row [y] 0 0 false p.1), S.next + 1⟩ .append (t :: u :: ts) [v, .slice S.next 0 0 1 1 1 (some 1)] = .val v' T ∧ Own T lo v' 1 p.1 (cs ++ [y]) ∧ kk lo S T ∧
   (∀ id, id < S.next → id + 1 ≠ cJ v → T.h.get id = S.h.get id) ∧ sLen v' = cs.length + 1 ∧ isNil v' = false ∧ (cJ v' = cJ v ∨ S.next < cJ v') := by
 have hlen := ho.sl.sm;obtain ⟨e, sz, bs⟩ := p;simp only at h1;subst h1;have gR : Own (⟨S.h.set S.next (.row [y] 0 0 false e), S.next + 1⟩ : AS) lo v 1 e cs := ho.bm (fun id _ h2 => ae _ _ (by omega)) (Nat.le_succ _)
 have hx : Sl (⟨S.h.set S.next (.row [y] 0 0 false e), S.next + 1⟩ : AS) (.slice S.next 0 0 1 1 1 (some 1)) 1 [y] := by
  refine ⟨rfl, ?_, rfl, by simp [cJ]⟩
  simp [nC, fV, aa, dQ]
 obtain ⟨v', T, r1, r2, r3, r4, r5, r6, r7⟩ := mI (lo := lo) (ts := ts) h hu hd gR (Nat.le_succ_of_le hl) hx (by rw [hlen]; exact hf)
 refine ⟨v', T, r1, r2, ⟨fun id hi => (r3.h id hi).trans (ae _ _ (by omega)), Nat.le_trans (Nat.le_succ _) r3.next⟩, fun id hi bO => (r4 id (Nat.lt_succ_of_lt hi) bO).trans (ae _ _ (by omega)), by rw [r5, hlen]; rfl, by rw [r6]; simp [sLen], r7.imp id (fun h => Nat.lt_of_succ_lt h)⟩
def Acc (S : AS) (lo : Nat) (v : AV) (sz e : Nat) (cs : List AV) : Prop :=
 Own S lo v sz e cs ∨ ∃ id n, v = .slice id 0 0 n (n * sz) sz (some n) ∧ 0 < n ∧ lo ≤ id ∧ id < S.next ∧ S.h.get id = some (.row cs 0 0 false e) ∧ cs.length = n * sz
theorem ai.ex {cx : Cx} {f : FuncId} {as : List AV} {S : AS} {P : AV → AS → Prop} (h : ai cx f as S P) : ∃ v T, P v T ∧ ∀ Q : AV → AS → Prop, ai cx f as S Q = Q v T := by
 obtain ⟨n, ⟨v, T⟩, e, hn, hp⟩ := h;refine ⟨v, T, hp, fun Q => propext ⟨?_, fun hq => ⟨n, ⟨v, T⟩, e, hn, hq⟩⟩⟩
 rintro ⟨m, ⟨v', T'⟩, e', _, hq⟩
 have h1 := eD (cx := cx) (Nat.le_add_right n m) (.fn f) as S _ _ e;have h2 := eD (cx := cx) (Nat.le_add_left m n) (.fn f) as S _ _ e';have h3 : (aq.ok (v, T) [] : aq (AV × AS)) = .ok (v', T') [] := h1.symm.trans h2
 cases h3
 exact hq
theorem ai.eq {cx : Cx} {f : FuncId} {as : List AV} {S T : AS} {v : AV} (h : ai cx f as S fun v' T' => v' = v ∧ T' = T) {Q : AV → AS → Prop} : ai cx f as S Q = Q v T := by
 obtain ⟨v', T', ⟨rfl, rfl⟩, e⟩ := h.ex;exact e Q
theorem Sl.np {S : AS} {v : AV} {sz : Nat} {cs : List AV} (h : Sl S v sz cs) : bz v = false := by rcases h.cases with rfl | ⟨_, _, _, _, _, _, rfl⟩ <;> rfl
theorem Sl.ok {S : AS} {v : AV} {sz : Nat} {cs : List AV} (h : Sl S v sz cs) : oW v = true := by rcases h.cases with rfl | ⟨_, _, _, _, _, _, rfl⟩ <;> rfl
theorem Sl.base {S : AS} {v : AV} {sz : Nat} {cs : List AV} (h : Sl S v sz cs) : od v = true := by rcases h.cases with rfl | ⟨_, _, _, _, _, _, rfl⟩ <;> rfl
theorem okV_pAt {v : AV} {k : Nat} : oW (rW v k) = true := by cases v <;> rfl
theorem okW_ok {v : AV} (h : oW v = true) : okW v = true := by
 cases v <;> try exact h
 rename_i fn a b
 cases fn <;> simp [oW, od] at h
theorem EO {v : AV} (h : oW v = true) : okW v = true := okW_ok h
theorem okW_func {f : FuncId} {a b : List AV} : okW (.func (.func f) a b) = (jm a && jm b) := by simp [okW]
theorem okW_slice {a b c d e f : Nat} {g : Option Nat} : okW (.slice a b c d e f g) = true := rfl
theorem okW_ptr {a b c d : Nat} : okW (.ptr a b c d) = true := rfl
theorem okW_int {k : IntKind} {n : Int} : okW (.int k n) = true := rfl
theorem okW_bool {b : Bool} : okW (.bool b) = true := rfl
theorem okW_str {s : List Nat} : okW (.str s) = true := rfl
theorem okW_nils : okW .aH = true := rfl
theorem okW_nilp : okW .dT = true := rfl
theorem okW_map {i : Nat} : okW (.map i) = true := rfl
theorem okW_nilm : okW .gm = true := rfl
theorem EP : okW .bN = true := rfl
theorem okW_agg {l : List AV} : okW (.agg l) = jm l := rfl
theorem okW_tuple {l : List AV} : okW (.tuple l) = jm l := rfl
theorem aN {i : Nat} (h : i < 9223372036854775807) : IntKind.i64.wrap ((i : Int) + 1) = ((i + 1 : Nat) : Int) := by
 rw [IntWalk.i64_in _ (by omega)]; omega
theorem ja {i : Nat} (h : i < 9223372036854775808) : IntKind.i64.wrap (i : Int) = (i : Int) := IntWalk.i64_in _ (by omega)
theorem take_more {α : Type} {l m : List α} {i : Nat} (h : l.take i = m.take i) (hl : i < l.length) (hm : i < m.length) (he : l[i] = m[i]) : l.take (i + 1) = m.take (i + 1) := by
 rw [List.take_succ_eq_append_getElem hl, List.take_succ_eq_append_getElem hm, h, he]
def oU (v : AV) (l h : Nat) : AV := match v with
 | .slice id g off _ lim sz none => .slice id g (off + l * sz) (h - l) lim sz none
 | .slice id g off _ lim sz (some c) => jl id g off lim sz l h c
 | v => v
theorem dh {cx : Cx} {F : Fr} {t : TypeId} {p : Nat × Nat × Nat} {v : AV} {lo hi : Option Operand} {l k : Nat} (h : kP cx t = some p) (hv : isSl p.2.1 v = true) (hl : bound F lo 0 = some l) (hh : bound F hi (sLen v) = some k) (h1 : l ≤ k) (h2 : k ≤ sLen v) :
  cE cx F t v lo hi none = some (oU v l k) := by
 obtain ⟨hu, hs, _⟩ := fF h
 cases v <;> simp only [isSl, Bool.false_eq_true] at hv
 ·have hk : k = 0 := by simpa [sLen] using h2
  subst hk;obtain rfl : l = 0 := by omega
  have hb : bounds F 0 0 lo hi none = some (0, 0, 0) := by
   unfold bounds;have hh' : bound F hi 0 = some 0 := hh;rw [hl, hh']
   rfl
  unfold cE;simp only [hu, hs, hb]
  rfl
 ·rename_i id g off len lim z cap
  simp only [Bool.and_eq_true, decide_eq_true_eq] at hv;obtain ⟨hz, hc⟩ := hv;subst hz;simp only [sLen] at hh h2
  cases cap with
  | none =>
   have hb : bounds F len (e6 len none) lo hi none = some (l, k, len) := by
    unfold bounds;rw [hl, hh];have e : bound F none (e6 len none) = some len := rfl;rw [e];simp [cg, h1, h2, e6, su]
   unfold cE;simp only [hu, hs, hb, aK, decide_true, cond_true, aC];have e2 : (su (none : Option Operand) || su (none : Option Nat)) = false := rfl;rw [e2]
   rfl
  | some c =>
   simp only [jr, decide_eq_true_eq] at hc;have hb : bounds F len (e6 len (some c)) lo hi none = some (l, k, c) := by
    unfold bounds;rw [hl, hh];have e : bound F none (e6 len (some c)) = some c := rfl;rw [e];have : k ≤ c := by omega
    simp [cg, h1, this, e6, su]
   unfold cE;simp only [hu, hs, hb, aK, decide_true, cond_true]
   rfl
theorem cy {F : Fr} {d : Nat} : bound F none d = some d := by simp [bound]
theorem az {F : Fr} {o : Operand} {d : Nat} : bound F (some o) d = fc (eval F o) := by simp [bound]
theorem aM {k : IntKind} {n : Nat} : fc (.int k (n : Int)) = some n := by simp [fc]
theorem vA {k : IntKind} : fc (.int k 0) = some 0 := by simp [fc]
theorem yK {k : IntKind} : fc (.int k 1) = some 1 := by simp [fc]
theorem Bw {S : AS} {v : AV} {sz : Nat} {cs : List AV} (h : Sl S v sz cs) {l k : Nat} (h1 : l ≤ k) (h2 : k ≤ sLen v) : sLen (oU v l k) = k - l := by
 have uD := h.sl;rcases h.cases with rfl | ⟨id, g, off, n, lim, cap, rfl⟩
 ·simp [sLen] at h2; subst h2; simp [oU, sLen]
 ·cases cap with
  | none => simp [oU, sLen]
  | some c =>
   simp only [isSl, jr, Bool.and_eq_true, decide_eq_true_eq] at uD;simp only [sLen] at h2;simp only [oU, jl, aK]
   by_cases hc : c = l
   ·simp [hc, sLen]; omega
   ·simp [hc, sLen, aC]
theorem Sl.cut {S : AS} {v : AV} {sz : Nat} {cs : List AV} (h : Sl S v sz cs) {l k : Nat} (h1 : l ≤ k) (h2 : k ≤ sLen v) : Sl S (oU v l k) sz ((cs.drop (l * sz)).take ((k - l) * sz)) := by
 have hlen := Bw h h1 h2;have pY : ((cs.drop (l * sz)).take ((k - l) * sz)).length = (k - l) * sz := by
  have h3 := h.len;have h4 : l * sz + (k - l) * sz ≤ sLen v * sz := by rw [← Nat.add_mul]; exact Nat.mul_le_mul_right _ (by omega)
  simp; omega
 by_cases h0 : k - l = 0
 ·have hnil : (cs.drop (l * sz)).take ((k - l) * sz) = [] := by rw [h0]; simp
  rw [hnil];rcases h.cases with rfl | ⟨id, g, off, n, lim, cap, rfl⟩
  ·exact Sl.nil
  ·have hold := h.old
   have uD := h.sl
   cases cap with
   | none =>
    have e : oU (.slice id g off n lim sz none) l k = .slice id g (off + l * sz) (k - l) lim sz none := rfl;rw [e, h0];exact ⟨by simp [isSl, jr], rfl, by simp [sLen], hold⟩
   | some c =>
    simp only [oU, jl, aK]
    by_cases hc : c = l
    ·simp only [hc, decide_true, cond_true]
     exact ⟨by simp [isSl, jr], rfl, by simp [sLen], hold⟩
    ·simp only [hc, decide_false, cond_false, aC]
     have e : Nat.sub k l = 0 := h0;rw [e];exact ⟨by simp [isSl, jr], rfl, by simp [sLen], hold⟩
 ·obtain ⟨id, g, off, n, lim, cap, rfl, cells, low, top, frz, e, hg, g1, g2, g3, g4⟩ := ll h (k := l) (by omega)
  have hold := h.old;have uD := h.sl;simp only [sLen] at h2;obtain ⟨m, hm⟩ : ∃ m, k - l = m + 1 := ⟨k - l - 1, by omega⟩
  have hle : l * sz + (k - l) * sz ≤ n * sz := by rw [← Nat.add_mul]; exact Nat.mul_le_mul_right _ (by omega)
  have key : ∀ xL, nC S (.slice id g (off + l * sz) (k - l) lim sz xL) = some ((cs.drop (l * sz)).take ((k - l) * sz)) := by
   intro xL;rw [hm];simp only [nC, fV, hg, dQ];rw [← hm, if_pos ⟨g1, g2, by omega⟩, ← g4, List.drop_take, List.take_take, Nat.min_eq_left (by omega), List.drop_drop]
  have fin : ∀ xL, jr (k - l) xL = true → Sl S (.slice id g (off + l * sz) (k - l) lim sz xL) sz ((cs.drop (l * sz)).take ((k - l) * sz)) :=
   fun xL hc => ⟨by simp [isSl, hc], key xL, by rw [pY]; simp [sLen], hold⟩
  cases cap with
  | none => exact fin none rfl
  | some c =>
   simp only [isSl, jr, Bool.and_eq_true, decide_eq_true_eq] at uD;simp only [oU, jl, aK];have hc : c ≠ l := by omega
   simp only [hc, decide_false, cond_false, aC];exact fin (some (Nat.sub c l)) (by show jr (k - l) (some (c - l)) = true; simp [jr]; omega)
theorem repL_one (n : Nat) (z : AV) : fG n [z] = List.replicate n z := by
 induction n with
 | zero => rfl
 | succ n ih =>
  show dB [z] (fG n [z]) = _;rw [bd, ih]; rfl
theorem CQ {cx : Cx} {F : Fr} {t : TypeId} {p : Nat × Nat × Nat} {id : Nat} {l c : Operand} {z z' : AV} {n : Nat} (h : kP cx t = some p) (h1 : p.2.1 = 1) (hz : zeroOf cx p.1 = some z) (hc : cellsOf z = some [z']) (hl : fc (eval F l) = some n) (hk : fc (eval F c) = some n) (hf : fits n p.2.2 = true) :
  aI cx F id (.makeSlice t l c) = some (.slice id 0 0 n n 1 (some n), .row (List.replicate n z') 0 0 false p.1) := by
 obtain ⟨hu, hs, hb, _, _⟩ := fF h;obtain ⟨e, sz, bs⟩ := p;simp only at h1 hu hs hb hz hf;subst h1;unfold aI;simp only [hu, hs, hb, hz, hc, hl, hk, hf, cg, Nat.le_refl, repL_one];have e1 : (Nat.beq (cZ [z']) (Nat.succ 0) && decide True && true) = true := rfl;rw [e1];simp
section
variable {cx : Cx} {F : Fr} {S : AS} {t : TypeId}
variable {dst : Option Tmp} {ty : TypeId} {pos : String} {af : Array Edge} {gd : Option (Nat × Bool)}
def ptT (cx : Cx) (t : TypeId) : Bool := match aZ cx t with | some (.pointer _) => true | _ => false
theorem uw (h : ptT cx t = true) : ∃ e, aZ cx t = some (.pointer e) := by
 unfold ptT at h
 split at h
 ·rename_i e hu; exact ⟨e, hu⟩
 ·cases h
theorem eq_nilp {c : Bool} {a b d e : Nat} (h : ptT cx t = true) : cK cx .eql t c (.ptr a b d e) .dT = some (.bool false) := by
 obtain ⟨u, hu⟩ := uw h;have e1 : sO cx 6 t (.ptr a b d e) .dT = some false := by
  show (match aZ cx t with | none => none | some d' => gz cx (sO cx 5) t d' (.ptr a b d e) .dT) = _
  rw [hu]; rfl
 simp [cK, DW, pN, e1]
theorem ne_nilp {c : Bool} {a b d e : Nat} (h : ptT cx t = true) : cK cx .neq t c (.ptr a b d e) .dT = some (.bool true) := by
 obtain ⟨u, hu⟩ := uw h;have e1 : sO cx 6 t (.ptr a b d e) .dT = some false := by
  show (match aZ cx t with | none => none | some d' => gz cx (sO cx 5) t d' (.ptr a b d e) .dT) = _
  rw [hu]; rfl
 simp [cK, DW, pN, e1]
theorem eq_nilp0 {c : Bool} (h : ptT cx t = true) : cK cx .eql t c .dT .dT = some (.bool true) := by
 obtain ⟨u, hu⟩ := uw h;have e1 : sO cx 6 t .dT .dT = some true := by
  show (match aZ cx t with | none => none | some d' => gz cx (sO cx 5) t d' .dT .dT) = _
  rw [hu]; rfl
 simp [cK, DW, pN, e1]
theorem ne_nilp0 {c : Bool} (h : ptT cx t = true) : cK cx .neq t c .dT .dT = some (.bool false) := by
 obtain ⟨u, hu⟩ := uw h;have e1 : sO cx 6 t .dT .dT = some true := by
  show (match aZ cx t with | none => none | some d' => gz cx (sO cx 5) t d' .dT .dT) = _
  rw [hu]; rfl
 simp [cK, DW, pN, e1]
def Ck (v : AV) : Option AV := match v with | .ptr a b c d => some (.ptr a b c d) | .func (.func f) a b => some (.func (.func f) a b) | .map i => some (.map i) | _ => none
theorem nilCk_ptr {a b c d : Nat} : Ck (.ptr a b c d) = some (.ptr a b c d) := rfl
theorem EY {f : FuncId} {a b : List AV} : Ck (.func (.func f) a b) = some (.func (.func f) a b) := rfl
theorem nilCk_map {i : Nat} : Ck (.map i) = some (.map i) := rfl
theorem um {x : Tmp} {v u : AV} (hx : sl F x = v) (h : Ck v = some u) : bq cx F S ⟨dst, .nilCheck (.tmp x), ty, pos, af, gd⟩ = .val u S := by
 unfold Ck at h
 split at h
 ·cases h; exact tc ((ay F x).trans hx)
 ·cases h; exact rA ((ay F x).trans hx)
 ·cases h; simp only [bq, (ay F x).trans hx]
 ·cases h
end
def E3 (cx : Cx) (t : TypeId) : Bool := match aZ cx t with | some (.map _ _) => true | _ => false
theorem freshV_map {cx : Cx} {F : Fr} {t : TypeId} {id : Nat} (h : E3 cx t = true) : aI cx F id (.makeMap t none) = some (.map id, .map [] 0) := by
 unfold E3 at h
 split at h
 ·rename_i k e hu
  unfold aI;simp [hu, pX]
 ·cases h
def nW (cx : Cx) (s d : TypeId) : Option IntKind := match aZ cx s, aZ cx d with | some _, some (.int k) => some k | _, _ => none
def intOf (v : AV) : Option Int := match v with | .int _ n => some n | _ => none
theorem intOf_int {k : IntKind} {n : Int} : intOf (.int k n) = some n := by simp [intOf]
theorem aop_conv {cx : Cx} {F : Fr} {S : AS} {dst : Option Tmp} {ty : TypeId} {pos : String} {af : Array Edge} {gd : Option (Nat × Bool)} {s d : TypeId} {x : Tmp} {v : AV} {k : IntKind} {n : Int}
  (hx : sl F x = v) (h : nW cx s d = some k) (hv : intOf v = some n) : bq cx F S ⟨dst, .convert s d (.tmp x), ty, pos, af, gd⟩ = .val (.int k (k.wrap n)) S := by
 unfold nW at h
 split at h
 ·rename_i e k' h1 h2
  cases h
  cases v <;> simp [intOf] at hv
  subst hv;exact Bd h1 h2 ((ay F x).trans hx)
 ·cases h
theorem tJ {cx : Cx} {ops : List Oper} {F : Fr} {S : AS} {Q : Fr → AS → Prop} (P : Fr → AS → Prop) (h : iR cx ops F S P) (k : ∀ G T, P G T → Q G T) : iR cx ops F S Q := by
 have h1 := h.run;refine ⟨?_⟩;unfold rk at h1 ⊢
 cases hp : Cc cx ops with
 | none => rw [hp] at h1; exact h1
 | some rows =>
  rw [hp] at h1;exact dW h1 fun G T sn hh => ⟨hh.1, k _ _ hh.2⟩
structure Above (lo : Nat) (S T : AS) : Prop where
 h : ∀ id, lo ≤ id → id < S.next → T.h.get id = S.h.get id
 next : S.next ≤ T.next
theorem aj {m n : Nat} (h : m < n) : (m = n) = False := by simp; omega
theorem isSl_nils {z : Nat} : isSl z .aH = true := by simp [isSl, jr]
theorem isSl_slice {z a b c d e f : Nat} {g : Option Nat} : isSl z (.slice a b c d e f g) = (decide (f = z) && jr d g) := by simp [isSl, jr]
theorem capB_none {n : Nat} : jr n none = true := by simp [jr]
theorem capB_some {n c : Nat} : jr n (some c) = decide (n ≤ c) := by simp [jr]
theorem isNil_nils : isNil .aH = true := rfl
theorem Cy {a b c d e f : Nat} {g : Option Nat} : isNil (.slice a b c d e f g) = false := rfl
theorem ym : sLen .aH = 0 := rfl
theorem Ep {a b c d e f : Nat} {g : Option Nat} : sLen (.slice a b c d e f g) = d := rfl
theorem AP : cellsOf .jE = some [.jE] := rfl
theorem AO : cellsOf .gm = some [.gm] := rfl
theorem Dk {i : Nat} : cellsOf (.map i) = some [.map i] := rfl
theorem AQ {f : Fn} {a b : List AV} : cellsOf (.func f a b) = some [.func f a b] := rfl
theorem Sl.cells {S : AS} {v : AV} {sz : Nat} {cs : List AV} (h : Sl S v sz cs) : cellsOf v = some [v] := by rcases h.cases with rfl | ⟨_, _, _, _, _, _, rfl⟩ <;> rfl
attribute [simp] freshV_map intOf_int aop_conv dh cy az aM vA yK CQ capB_none capB_some AP AO Dk AQ okV_pAt isSl_nils isSl_slice isNil_nils Cy ym Ep rowsW_nil rowsW_p rowsW_r rowsW_f rowsW_e wontP_app wontR_app wontF_app wontE_app D7 stepV_run D6 By Ee stepA_run Ed BC freP_some valP_val aopIs_val reP_free reP_run reP_skip reP_undef
 okN_zero okN_back okN_keep E4 E5 decL_one decL_more rm B4 B5 EC B3 p9 comL pB comA sc EO okW_slice okW_ptr okW_int okW_bool okW_str okW_nils okW_nilp okW_map okW_nilm EP okW_agg okW_tuple okW_func od jm
 len_sl Ba xT idxOf_int inA_int eq_nilp ne_nilp eq_nilp0 ne_nilp0 nilCk_ptr EY nilCk_map um eq_nil ne_nil pZ tF
end Go.Am
end
