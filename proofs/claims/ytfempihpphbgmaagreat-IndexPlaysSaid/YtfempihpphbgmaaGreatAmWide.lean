/-
  The abstract machine: slices whose elements have several cells, maps with keys that are numbers, footprints.
-/
import Derived.Test.YtfempihpphbgmaaGreatAmRow
namespace Go.Am
open Go
set_option linter.unusedSimpArgs false
def x5 (v : AV) (j : Nat) : AV := match v with | .ptr id g off lim => .ptr id g (off + j) lim | _ => .undef
theorem lu {v : AV} {j : Nat} : oW (x5 v j) = true := by cases v <;> rfl
def isP : AV → Bool | .ptr .. => true | _ => false
theorem bl {v : AV} {o : Nat} (h : isP v = true) : Az v (some o) = some (x5 v o) := by
 cases v <;> simp [isP] at h
 rfl
theorem ik {v : AV} {k n : Nat} (hv : isSl n v = true) (h : k < sLen v) : isP (rW v k) = true := by
 cases v <;> simp [isSl] at hv
 ·simp [sLen] at h
 ·rfl
theorem my {α : Type} {sz : Nat} {enc : α → List AV} (hz : ∀ x, (enc x).length = sz) (L : List α) : (L.flatMap enc).length = L.length * sz := by
 induction L with
 | nil => simp
 | cons x l ih => rw [List.flatMap_cons, List.length_append, ih, hz, List.length_cons, Nat.succ_mul]; omega
theorem mz {α : Type} {sz : Nat} {enc : α → List AV} (hz : ∀ x, (enc x).length = sz) : ∀ (L : List α) (k : Nat), (L.flatMap enc).drop (k * sz) = (L.drop k).flatMap enc
 | [], k => by simp
 | x :: l, 0 => by simp
 | x :: l, k + 1 => by
  rw [List.flatMap_cons, List.drop_succ_cons, ← mz hz l k, Nat.succ_mul, Nat.add_comm, ← List.drop_drop];rw [← hz x, List.drop_left]
theorem mw {α : Type} {sz : Nat} {enc : α → List AV} (hz : ∀ x, (enc x).length = sz) : ∀ (L : List α) (k : Nat), (L.flatMap enc).take (k * sz) = (L.take k).flatMap enc
 | [], k => by simp
 | x :: l, 0 => by simp
 | x :: l, k + 1 => by
  rw [List.flatMap_cons, List.take_succ_cons, List.flatMap_cons, ← mw hz l k, Nat.succ_mul, Nat.add_comm, ← hz x, List.take_length_add_append]
theorem fm_get {α : Type} {sz : Nat} {enc : α → List AV} (hz : ∀ x, (enc x).length = sz) {L : List α} {k : Nat} {x : α} (h : L[k]? = some x) : ((L.flatMap enc).drop (k * sz)).take sz = enc x := by
 obtain ⟨hk, rfl⟩ := List.getElem?_eq_some_iff.1 h;rw [mz hz, List.drop_eq_getElem_cons hk, List.flatMap_cons, List.take_left' (hz _)]
section
variable {cx : Cx} {S : AS} {v : AV} {α : Type} {sz k : Nat} {enc : α → List AV} {L : List α} {x : α} {e : TypeId}
theorem Sl.aO (h : Sl S v sz (L.flatMap enc)) (hz : ∀ x, (enc x).length = sz) (hp : 0 < sz) : sLen v = L.length := by
 have := h.len;rw [my hz] at this;exact (Nat.eq_of_mul_eq_mul_right hp this).symm
theorem cz (h : Sl S v sz (L.flatMap enc)) (hz : ∀ x, (enc x).length = sz) (hp : 0 < sz) (hk : L[k]? = some x) (ha : aE cx e = some true) (hs : aw cx e = some sz) : loadT cx S e (rW v k) = some (.agg (enc x)) := by
 rw [loadT_agg h (by rw [h.aO hz hp]; exact (List.getElem?_eq_some_iff.1 hk).1) ha hs, fm_get hz hk]
theorem rd_el (h : Sl S v sz (L.flatMap enc)) (hz : ∀ x, (enc x).length = sz) (hp : 0 < sz) (hk : L[k]? = some x) : ∃ id g off n lim cap, v = .slice id g off n lim sz cap ∧ k < n ∧
  ∃ cells low top frz e, S.h.get id = some (.row cells low top frz e) ∧ low ≤ g ∧ g ≤ top ∧ off + n * sz ≤ lim ∧ (cells.drop (off + k * sz)).take sz = enc x := by
 have DR : k < sLen v := by rw [h.aO hz hp]; exact (List.getElem?_eq_some_iff.1 hk).1
 obtain ⟨id, g, off, n, lim, cap, rfl, cells, low, top, frz, e', hg, h1, h2, h3, h4⟩ := ll h DR;simp only [sLen] at DR;refine ⟨id, g, off, n, lim, cap, rfl, DR, cells, low, top, frz, e', hg, h1, h2, h3, ?_⟩;have hle : k * sz + sz ≤ n * sz := by rw [← Nat.succ_mul]; exact Nat.mul_le_mul_right _ DR
 rw [← fm_get hz hk, ← h4, List.drop_take, List.take_take, Nat.min_eq_left (by omega), List.drop_drop]
theorem gL {o : Nat} {y : AV} (h : Sl S v sz (L.flatMap enc)) (hz : ∀ x, (enc x).length = sz) (hp : 0 < sz) (hk : L[k]? = some x) (hy : (enc x)[o]? = some y) (ha : aE cx e = some false) : loadT cx S e (x5 (rW v k) o) = some y := by
 obtain ⟨id, g, off, n, lim, cap, rfl, DR, cells, low, top, frz, e', hg, h1, h2, h3, h4⟩ := rd_el h hz hp hk;have ho : o < sz := by rw [← hz x]; exact (List.getElem?_eq_some_iff.1 hy).1
 have hle : k * sz + sz ≤ n * sz := by rw [← Nat.succ_mul]; exact Nat.mul_le_mul_right _ DR
 simp only [rW, x5, lC, nK, ha, sh, hg, dQ];rw [if_pos ⟨h1, h2, by omega⟩]
 have : (cells.drop (off + k * sz + o)).take 1 = [y] := by
  rw [← h4, List.getElem?_take, if_pos ho, List.getElem?_drop] at hy;rw [List.take_one, List.head?_drop, hy]; rfl
 rw [this]; rfl
theorem oF {o n' : Nat} (h : Sl S v sz (L.flatMap enc)) (hz : ∀ x, (enc x).length = sz) (hp : 0 < sz) (hk : L[k]? = some x) (ho : o + n' ≤ sz) (ha : aE cx e = some true) (hs : aw cx e = some n') :
  loadT cx S e (x5 (rW v k) o) = some (.agg (((enc x).drop o).take n')) := by
 obtain ⟨id, g, off, n, lim, cap, rfl, DR, cells, low, top, frz, e', hg, h1, h2, h3, h4⟩ := rd_el h hz hp hk;have hle : k * sz + sz ≤ n * sz := by rw [← Nat.succ_mul]; exact Nat.mul_le_mul_right _ DR
 simp only [rW, x5, lC, nK, ha, hs, sk, hg, dQ];rw [if_pos ⟨h1, h2, by omega⟩]
 simp only [te, Option.some.injEq, AV.agg.injEq];rw [← h4, List.drop_take, List.take_take, Nat.min_eq_left (by omega), List.drop_drop]
end
def capN (n : Nat) : Option Nat → Bool | none => true | some c => decide (c = n)
def Gw (S : AS) (v : AV) (sz e : Nat) (cs : List AV) : Prop :=
 Sl S v sz cs ∧ (v = .aH ∨ ∃ id g off n lim cap, v = .slice id g off n lim sz cap ∧ capN n cap = true ∧ id < S.next ∧ ∃ cells low top, S.h.get id = some (.row cells low top false e) ∧ low ≤ g ∧ g = top)
theorem Gw.nil {S : AS} {sz e : Nat} : Gw S .aH sz e [] := ⟨Sl.nil, .inl rfl⟩
theorem Own.gw {S : AS} {lo : Nat} {v : AV} {sz e : Nat} {cs : List AV} (h : Own S lo v sz e cs) : Gw S v sz e cs := by
 refine ⟨h.sl, ?_⟩;rcases h with ⟨rfl, rfl⟩ | ⟨id, g, low, n, rfl, h1, h2, h3, h4, h5⟩
 ·exact .inl rfl
 ·exact .inr ⟨id, g, 0, n, n * sz, none, rfl, rfl, h2, cs, low, g, h3, h4, rfl⟩
theorem Gw.bR {S T : AS} {v : AV} {sz e : Nat} {cs : List AV} (h : Gw S v sz e cs) (hs : ∀ id, cJ v = id + 1 → T.h.get id = S.h.get id) (hn : S.next ≤ T.next) : Gw T v sz e cs := by
 obtain ⟨h1, h2⟩ := h;refine ⟨⟨h1.sl, ?_, h1.len, Nat.le_trans h1.old hn⟩, ?_⟩
 ·have hr := h1.rd
  rw [← hr];unfold nC
  split <;> try rfl
  rename_i i g off n lim z _
  cases n with
  | zero => rfl
  | succ n => simp only [fV, hs i rfl]
 ·rcases h2 with rfl | ⟨id, g, off, n, lim, cap, rfl, hc, aL, cells, low, top, hg, hl⟩
  ·exact .inl rfl
  ·exact .inr ⟨id, g, off, n, lim, cap, rfl, hc, Nat.lt_of_lt_of_le aL hn, cells, low, top, by rw [hs id rfl]; exact hg, hl⟩
def capNo : AV → Bool | .slice _ _ _ _ _ _ (some _) => false | _ => true
theorem Gw.putc {S : AS} {v x : AV} {sz e : Nat} {cs : List AV} {i o : Nat} (h : Gw S v sz e cs) (hi : i < sLen v) (ho : o < sz) :
  ∃ T, wrV S (x5 (rW v i) o) [x] = some T ∧ Gw T v sz e (cs.set (i * sz + o) x) ∧ (∀ id, id + 1 ≠ cJ v → T.h.get id = S.h.get id) ∧ T.next = S.next := by
 obtain ⟨h1, h2⟩ := h;rcases h2 with rfl | ⟨id, g, off, n, lim, cap, rfl, hc, aL, cells, low, top, hg, hl, htq⟩
 ·simp [sLen] at hi
 ·subst htq
  simp only [sLen] at hi;obtain ⟨qu, g', off', n', lim', xL, e1, cells', low', oT, xF, yd, hg', k1, k2, k3, k4⟩ := ll h1 (k := i) hi
  cases e1
  rw [hg] at hg'
  cases hg'
  have hlen := h1.len;simp only [sLen] at hlen;have hle : i * sz + sz ≤ n * sz := by rw [← Nat.succ_mul]; exact Nat.mul_le_mul_right _ hi
  have pY : off + n * sz ≤ cells.length := by
   have := congrArg List.length k4;rw [List.length_take, List.length_drop, hlen] at this
   by_cases h0 : n * sz = 0
   ·omega
   ·omega
  have hsp : dg (off + i * sz + o) cells [x] = cells.set (off + i * sz + o) x := by
   rw [fE _ _ _ (by omega), List.set_eq_take_append_cons_drop, if_pos (by omega)]
   simp
  refine ⟨⟨S.h.set id (.row (cells.set (off + i * sz + o) x) g g false e), S.next⟩, ?_, ⟨⟨h1.sl, ?_, by rw [List.length_set]; exact hlen, h1.old⟩, .inr ⟨id, g, off, n, lim, cap, rfl, hc, aL, _, g, g, aa _ _ _, Nat.le_refl _, rfl⟩⟩, fun j hj => ae _ _ (fun e => hj (by simp [cJ, e])), rfl⟩
  ·simp only [rW, x5, zC, yb, hg, ox, List.length_singleton, hsp]
   rw [if_pos (by refine ⟨?_, by omega, ?_⟩ <;> trivial)]
  ·obtain ⟨m, rfl⟩ : ∃ m, n = m + 1 := ⟨n - 1, by omega⟩
   simp only [nC, fV, aa, dQ];rw [if_pos ⟨Nat.le_refl _, Nat.le_refl _, k3⟩]
   congr 1
   rw [← k4]
   apply List.ext_getElem?
   intro j;rw [List.getElem?_take, List.getElem?_drop, List.getElem?_set, List.getElem?_set, List.getElem?_take, List.getElem?_drop, List.length_take, List.length_drop]
   by_cases hj : j < (m + 1) * sz
   ·rw [if_pos hj, if_pos hj]
    by_cases hjj : i * sz + o = j
    ·rw [if_pos hjj, if_pos (by omega), if_pos (by omega), if_pos (by omega)]
    ·rw [if_neg hjj, if_neg (by omega)]
   ·rw [if_neg hj, if_neg hj, if_neg (by omega)]
def nI {κ : Type} [DecidableEq κ] : List (κ × AV) → κ → Option AV
 | [], _ => none
 | (a, v) :: m, k => if k = a then some v else nI m k
def oY {κ : Type} [DecidableEq κ] : List (κ × AV) → κ → AV → List (κ × AV)
 | [], k, v => [(k, v)]
 | (a, w) :: m, k, v => if k = a then (k, v) :: m else (a, w) :: oY m k v
structure KeyE {κ : Type} [DecidableEq κ] (d : TypeDesc) (enc : κ → AV) : Prop where
 same : ∀ a b, kZ d (enc a) (enc b) = some (decide (a = b))
 plain : ∀ a, plainKey d (enc a) = true
noncomputable def xr (cx : Cx) (t : TypeId) : Option (TypeDesc × AV) := match aZ cx t with
 | some (.map kt et) => match aZ cx kt, zeroOf cx et with
  | some d, some z => some (d, z)
  | _, _ => none
 | _ => none
theorem vF {cx : Cx} {t : TypeId} {p : TypeDesc × AV} (h : xr cx t = some p) : ∃ kt et, aZ cx t = some (.map kt et) ∧ aZ cx kt = some p.1 ∧ zeroOf cx et = some p.2 := by
 unfold xr at h
 split at h
 ·rename_i kt et hu
  split at h
  ·rename_i d z h1 h2
   cases h
   exact ⟨kt, et, hu, h1, h2⟩
  ·cases h
 ·cases h
def Mp {κ : Type} (S : AS) (x : AV) (enc : κ → AV) (m : List (κ × AV)) : Prop :=
 ∃ id es clock, x = .map id ∧ id < S.next ∧ S.h.get id = some (.map es clock) ∧ es.map (fun e => (e.key, e.val)) = m.map (fun p => (enc p.1, p.2))
theorem v7 {κ : Type} [DecidableEq κ] {d : TypeDesc} {enc : κ → AV} (hk : KeyE d enc) (k : κ) (v : AV) (clock : Nat) : ∀ (es : List aX) (m : List (κ × AV)) (i : Nat), es.map (fun e => (e.key, e.val)) = m.map (fun p => (enc p.1, p.2)) →
  (∃ j e, ea d (enc k) es i = some (some (i + j, e)) ∧ j < es.length ∧ nI m k = some e.val ∧ (l5 j es ⟨enc k, v, e.born⟩).map (fun e => (e.key, e.val)) = (oY m k v).map (fun p => (enc p.1, p.2))) ∨
  (ea d (enc k) es i = some none ∧ nI m k = none ∧ (dB es [⟨enc k, v, clock⟩]).map (fun e => (e.key, e.val)) = (oY m k v).map (fun p => (enc p.1, p.2)))
 | [], m, i, h => by
  cases m with
  | nil => exact .inr ⟨rfl, rfl, rfl⟩
  | cons p m => simp at h
 | e :: es, m, i, h => by
  cases m with
  | nil => simp at h
  | cons p m =>
   obtain ⟨a, w⟩ := p;simp only [List.map_cons, List.cons.injEq, Prod.mk.injEq] at h;obtain ⟨⟨h1, h2⟩, h3⟩ := h;have hs : ea d (enc k) (e :: es) i = (match kZ d (enc k) e.key with | some true => some (some (i, e)) | some false => ea d (enc k) es (Nat.succ i) | none => none) := rfl
   rw [hs, h1, hk.same]
   by_cases hka : k = a
   ·subst hka
    refine .inl ⟨0, e, by simp, by simp, by simp [nI, h2], ?_⟩
    show ((⟨enc k, v, e.born⟩ : aX) :: es).map _ = _;simp [oY, h3]
   ·rcases v7 hk k v clock es m (i + 1) h3 with ⟨j, e', g1, g2, g3, g4⟩ | ⟨g1, g2, g3⟩
    ·refine .inl ⟨j + 1, e', ?_, by simp; omega, by simp [nI, hka, g3], ?_⟩
     ·have : (i + 1 + j, e') = (i + (j + 1), e') := by rw [Nat.add_assoc, Nat.add_comm 1 j]
      simp only [hka, decide_false];rw [← this]; exact g1
     ·show (e :: l5 j es ⟨enc k, v, e'.born⟩).map _ = _
      simp [oY, hka, g4, h1, h2]
    ·refine .inr ⟨by simp only [hka, decide_false]; exact g1, by simp [nI, hka, g2], ?_⟩
     show (e :: dB es [⟨enc k, v, clock⟩]).map _ = _;simp [oY, hka, g3, h1, h2]
theorem lA {κ : Type} [DecidableEq κ] {cx : Cx} {S : AS} {t : TypeId} {p : TypeDesc × AV} {x : AV} {enc : κ → AV} {m : List (κ × AV)} {k : κ} {ok : Bool} (h : xr cx t = some p) (hk : KeyE p.1 enc) (hm : Mp S x enc m) :
  kr cx S t x (enc k) ok = some (match nI m k with | some v => cond ok (.tuple [v, .bool true]) v | none => cond ok (.tuple [p.2, .bool false]) p.2) := by
 obtain ⟨kt, et, h1, h2, h3⟩ := vF h;obtain ⟨id, es, clock, rfl, h4, h5, h6⟩ := hm;unfold kr;simp only [h1, h2, h3, hk.plain, cond_true, h5];rcases v7 hk k .undef 0 es m 0 h6 with ⟨j, e, g1, _, g3, _⟩ | ⟨g1, g2, _⟩
 ·rw [g1, g3]
 ·rw [g1, g2]
theorem CY {F : Fr} {cx : Cx} {sz : Nat} : ∀ (l : List (Nat × Operand)) (k : Nat) (pre z : List AV) (vs : List (List AV)), pre.length = k * sz → l.map (·.1) = List.range' k l.length → l.map (fun p => cellsOf (eval F p.2)) = vs.map some → (∀ v, v ∈ vs → v.length = sz) → z.length = l.length * sz →
  ew cx F (fun i => some (Nat.mul i sz, sz)) l (pre ++ z) = some (pre ++ vs.flatten)
 | [], k, pre, z, vs, _, _, hv, _, hz => by
  cases vs with
  | nil => have : z = [] := List.length_eq_zero_iff.1 (by simpa using hz); subst this; rfl
  | cons v vs => simp at hv
 | q :: l, k, pre, z, vs, hp, hi, hv, hs, hz => by
  cases vs with
  | nil => simp at hv
  | cons v vs =>
   simp only [List.map_cons, List.cons.injEq, List.length_cons, List.range'_succ] at hi hv hz;have hvl : v.length = sz := hs v (by simp)
   have hzl : sz ≤ z.length := by rw [hz, Nat.succ_mul]; omega
   show (match (some (Nat.mul q.1 sz, sz) : Option (Nat × Nat)), cellsOf (eval F q.2) with
    | some (off, size), some new => cond (Nat.beq (cZ new) size && Nat.ble (Nat.add off size) (cZ (pre ++ z))) (ew cx F (fun i => some (Nat.mul i sz, sz)) l (Am.dg off (pre ++ z) new)) none
    | _, _ => none) = _
   rw [hv.1, hi.1];have e1 : Nat.mul k sz = k * sz := rfl;have e2 : Nat.add (k * sz) sz = k * sz + sz := rfl;simp only [aU, aK, cg, hvl, e1, e2, List.length_append, hp];have h2 : decide (k * sz + sz ≤ k * sz + z.length) = true := by simp [hzl]
   rw [h2];simp only [decide_true, Bool.and_self, cond_true];have h3 : Am.dg (k * sz) (pre ++ z) v = (pre ++ v) ++ z.drop sz := by
    rw [fE _ _ _ (by simp; omega), ← hp, List.take_left, hvl, ← List.drop_drop, List.drop_left]
   rw [h3, CY l (k + 1) (pre ++ v) (z.drop sz) vs (by simp [hp, hvl, Nat.succ_mul]) hi.2 hv.2 (fun u hu => hs u (by simp [hu])) (by rw [List.length_drop, hz, Nat.succ_mul]; omega)]
   simp
theorem BZ {z : List AV} (n : Nat) : (fG n z).length = n * z.length := by
 induction n with
 | zero => show ([] : List AV).length = _; simp
 | succ n ih =>
  show (dB z (fG n z)).length = _;rw [bd, List.length_append, ih, Nat.succ_mul, Nat.add_comm]
theorem vX {cx : Cx} {F : Fr} {t : TypeId} {p : Nat × Nat × Nat} {id n : Nat} {a : Array (Nat × Operand)} (vs : List (List AV)) (h : kP cx t = some p) (hi : a.toList.map (·.1) = List.range n) (hx : a.toList.map (fun q => cellsOf (eval F q.2)) = vs.map some) (hl : ∀ v, v ∈ vs → v.length = p.2.1) (hn : n * p.2.1 ≤ 16777216) :
  aI cx F id (.buildSlice t n a) = some (.slice id 0 0 n (n * p.2.1) p.2.1 (some n), .row vs.flatten 0 0 false p.1) := by
 obtain ⟨hu, hs, hb, hz, hp⟩ := fF h;obtain ⟨e, sz, bs⟩ := p;simp only at hu hs hb hz hp hl hn;obtain ⟨z0, rfl⟩ : ∃ z0, sz = z0 + 1 := ⟨sz - 1, by omega⟩
 have hal : a.toList.length = n := by have := congrArg List.length hi; simpa using this
 unfold eZ at hz
 cases sw : zeroOf cx e with
 | none => rw [sw] at hz; cases hz
 | some z =>
  rw [sw] at hz
  cases hc : cellsOf z with
  | none => simp [hc] at hz
  | some zl =>
   simp only [hc] at hz;simp only [aK, aU, decide_eq_true_eq] at hz;unfold aI;simp only [hu, hs, sw, hc];have e1 : Nat.succ z0 = z0 + 1 := rfl;have e2 : Nat.mul n (z0 + 1) = n * (z0 + 1) := rfl;have hb : (Nat.beq (cZ zl) (Nat.succ z0) && Nat.ble (Nat.mul n (Nat.succ z0)) 16777216) = true := by
    simp only [aK, cg, aU, e1, e2, hz, hn, decide_true, Bool.and_self]
   rw [hb];simp only [cond_true];have hf : ew cx F (fun i => some (Nat.mul i (z0 + 1), z0 + 1)) a.toList (fG n zl) = some vs.flatten := by
    have := CY (cx := cx) (F := F) (sz := z0 + 1) a.toList 0 [] (fG n zl) vs (by simp) (by rw [hal, hi, List.range_eq_range']) hx hl (by rw [BZ, hz, hal])
    simpa using this
   show (match ew cx F (fun i => some (Nat.mul i (z0 + 1), z0 + 1)) a.toList (fG n zl) with | some cells => some (AV.slice id 0 0 n (Nat.mul n (z0 + 1)) (z0 + 1) (some n), bW.row cells 0 0 false e) | none => none) = _
   rw [hf]
   rfl
structure eS (A : Nat → Prop) (S T : AS) : Prop where
 h : ∀ id, id < S.next → ¬ A id → T.h.get id = S.h.get id
 next : S.next ≤ T.next
theorem eS.refl {A : Nat → Prop} {S : AS} : eS A S S := ⟨fun _ _ _ => rfl, Nat.le_refl _⟩
theorem eS.trans {A : Nat → Prop} {R S T : AS} (h : eS A R S) (k : eS A S T) : eS A R T := ⟨fun id h1 h2 => (k.h id (Nat.lt_of_lt_of_le h1 h.next) h2).trans (h.h id h1 h2), Nat.le_trans h.next k.next⟩
theorem eS.set {A : Nat → Prop} {R S : AS} (h : eS A R S) {id n : Nat} {o : bW} (hi : R.next ≤ id ∨ A id) (hn : S.next ≤ n) : eS A R ⟨S.h.set id o, n⟩ :=
 ⟨fun i h1 h2 => by
  show (S.h.set id o).get i = _;rw [ae _ _ (by rcases hi with hi | hi; omega; exact fun e => h2 (e ▸ hi))]; exact h.h i h1 h2, Nat.le_trans h.next hn⟩
theorem Sub.bm {A : Nat → Prop} {S T : AS} (h : Sub S T) : eS A S T := ⟨fun id h1 _ => h.h id h1, h.next⟩
theorem Sl.bR {S T : AS} {v : AV} {sz : Nat} {cs : List AV} (h : Sl S v sz cs) (hs : ∀ id, cJ v = id + 1 → T.h.get id = S.h.get id) (hn : S.next ≤ T.next) : Sl T v sz cs := by
 refine ⟨h.sl, ?_, h.len, Nat.le_trans h.old hn⟩;rw [← h.rd];unfold nC
 split <;> try rfl
 rename_i i g off n lim z _
 cases n with
 | zero => rfl
 | succ n => simp only [fV, hs i rfl]
end Go.Am
