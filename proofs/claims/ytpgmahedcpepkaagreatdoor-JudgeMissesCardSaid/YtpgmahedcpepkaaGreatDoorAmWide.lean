/-
  The abstract machine: slices whose elements have several cells, maps with keys that are numbers, footprints.
  The abstract machine: texts and bytes.
-/
import Derived.Test.YtpgmahedcpepkaaGreatDoorAmRow
namespace Go.Am
open Go
set_option linter.unusedSimpArgs false

/-! ### Elements of several cells -/
def addP (v : AV) (j : Nat) : AV := match v with | .ptr id g off lim => .ptr id g (off + j) lim | _ => .undef
theorem okV_addP {v : AV} {j : Nat} : okV (addP v j) = true := by cases v <;> rfl
theorem addP_add {v : AV} {i j : Nat} : addP (addP v i) j = addP v (i + j) := by
  cases v <;> simp [addP, Nat.add_assoc, AV.undef]
def isP : AV → Bool | .ptr .. => true | _ => false
theorem isP_addP {v : AV} {j : Nat} (h : isP v = true) : isP (addP v j) = true := by cases v <;> simp_all [isP, addP]
theorem fieldP_add {v : AV} {o : Nat} (h : isP v = true) : fieldP v (some o) = some (addP v o) := by
  cases v <;> simp [isP] at h
  rfl
theorem isP_pAt {v : AV} {k n : Nat} (hv : isSl n v = true) (h : k < sLen v) : isP (pAt v k) = true := by
  cases v <;> simp [isSl] at hv
  · simp [sLen] at h
  · rfl
theorem fm_len {α : Type} {sz : Nat} {enc : α → List AV} (hz : ∀ x, (enc x).length = sz) (L : List α) : (L.flatMap enc).length = L.length * sz := by
  induction L with
  | nil => simp
  | cons x l ih => rw [List.flatMap_cons, List.length_append, ih, hz, List.length_cons, Nat.succ_mul]; omega
theorem fm_drop {α : Type} {sz : Nat} {enc : α → List AV} (hz : ∀ x, (enc x).length = sz) : ∀ (L : List α) (k : Nat), (L.flatMap enc).drop (k * sz) = (L.drop k).flatMap enc
  | [], k => by simp
  | x :: l, 0 => by simp
  | x :: l, k + 1 => by
    rw [List.flatMap_cons, List.drop_succ_cons, ← fm_drop hz l k, Nat.succ_mul, Nat.add_comm, ← List.drop_drop]
    rw [← hz x, List.drop_left]
theorem fm_take {α : Type} {sz : Nat} {enc : α → List AV} (hz : ∀ x, (enc x).length = sz) : ∀ (L : List α) (k : Nat), (L.flatMap enc).take (k * sz) = (L.take k).flatMap enc
  | [], k => by simp
  | x :: l, 0 => by simp
  | x :: l, k + 1 => by
    rw [List.flatMap_cons, List.take_succ_cons, List.flatMap_cons, ← fm_take hz l k, Nat.succ_mul, Nat.add_comm, ← hz x, List.take_length_add_append]
theorem fm_get {α : Type} {sz : Nat} {enc : α → List AV} (hz : ∀ x, (enc x).length = sz) {L : List α} {k : Nat} {x : α} (h : L[k]? = some x) : ((L.flatMap enc).drop (k * sz)).take sz = enc x := by
  obtain ⟨hk, rfl⟩ := List.getElem?_eq_some_iff.1 h
  rw [fm_drop hz, List.drop_eq_getElem_cons hk, List.flatMap_cons, List.take_left' (hz _)]
theorem fm_set {α : Type} {sz : Nat} {enc : α → List AV} (hz : ∀ x, (enc x).length = sz) {L : List α} {k : Nat} {y : α} (h : k < L.length) :
    (L.set k y).flatMap enc = (L.flatMap enc).take (k * sz) ++ enc y ++ (L.flatMap enc).drop (k * sz + sz) := by
  rw [List.set_eq_take_append_cons_drop, if_pos h, List.flatMap_append, List.flatMap_cons, fm_take hz]
  have : k * sz + sz = (k + 1) * sz := (Nat.succ_mul k sz).symm
  rw [this, fm_drop hz, List.append_assoc]

section
variable {cx : Cx} {S : AS} {v : AV} {α : Type} {sz k : Nat} {enc : α → List AV} {L : List α} {x : α} {e : TypeId}
theorem Sl.len_flat (h : Sl S v sz (L.flatMap enc)) (hz : ∀ x, (enc x).length = sz) (hp : 0 < sz) : sLen v = L.length := by
  have := h.len
  rw [fm_len hz] at this
  exact (Nat.eq_of_mul_eq_mul_right hp this).symm
/-- An element. -/
theorem loadT_el (h : Sl S v sz (L.flatMap enc)) (hz : ∀ x, (enc x).length = sz) (hp : 0 < sz) (hk : L[k]? = some x) (ha : aggOf cx e = some true) (hs : szOf cx e = some sz) : loadT cx S e (pAt v k) = some (.agg (enc x)) := by
  rw [loadT_agg h (by rw [h.len_flat hz hp]; exact (List.getElem?_eq_some_iff.1 hk).1) ha hs, fm_get hz hk]
theorem rd_el (h : Sl S v sz (L.flatMap enc)) (hz : ∀ x, (enc x).length = sz) (hp : 0 < sz) (hk : L[k]? = some x) : ∃ id g off n lim cap, v = .slice id g off n lim sz cap ∧ k < n ∧
    ∃ cells low top frz e, S.h.get id = some (.row cells low top frz e) ∧ low ≤ g ∧ g ≤ top ∧ off + n * sz ≤ lim ∧ (cells.drop (off + k * sz)).take sz = enc x := by
  have hkl : k < sLen v := by rw [h.len_flat hz hp]; exact (List.getElem?_eq_some_iff.1 hk).1
  obtain ⟨id, g, off, n, lim, cap, rfl, cells, low, top, frz, e', hg, h1, h2, h3, h4⟩ := rdS_some h hkl
  simp only [sLen] at hkl
  refine ⟨id, g, off, n, lim, cap, rfl, hkl, cells, low, top, frz, e', hg, h1, h2, h3, ?_⟩
  have hle : k * sz + sz ≤ n * sz := by rw [← Nat.succ_mul]; exact Nat.mul_le_mul_right _ hkl
  rw [← fm_get hz hk, ← h4, List.drop_take, List.take_take, Nat.min_eq_left (by omega), List.drop_drop]
/-- A field of an element. -/
theorem loadT_elf {o : Nat} {y : AV} (h : Sl S v sz (L.flatMap enc)) (hz : ∀ x, (enc x).length = sz) (hp : 0 < sz) (hk : L[k]? = some x) (hy : (enc x)[o]? = some y) (ha : aggOf cx e = some false) : loadT cx S e (addP (pAt v k) o) = some y := by
  obtain ⟨id, g, off, n, lim, cap, rfl, hkl, cells, low, top, frz, e', hg, h1, h2, h3, h4⟩ := rd_el h hz hp hk
  have ho : o < sz := by rw [← hz x]; exact (List.getElem?_eq_some_iff.1 hy).1
  have hle : k * sz + sz ≤ n * sz := by rw [← Nat.succ_mul]; exact Nat.mul_le_mul_right _ hkl
  simp only [pAt, addP, loadT_ptr, loadV_at, ha, loadK_one, hg, rdO_row]
  rw [if_pos ⟨h1, h2, by omega⟩]
  have : (cells.drop (off + k * sz + o)).take 1 = [y] := by
    rw [← h4, List.getElem?_take, if_pos ho, List.getElem?_drop] at hy
    rw [List.take_one, List.head?_drop, hy]; rfl
  rw [this]; rfl
/-- Some fields of an element, themselves a record. -/
theorem loadT_ela {o n' : Nat} (h : Sl S v sz (L.flatMap enc)) (hz : ∀ x, (enc x).length = sz) (hp : 0 < sz) (hk : L[k]? = some x) (ho : o + n' ≤ sz) (ha : aggOf cx e = some true) (hs : szOf cx e = some n') :
    loadT cx S e (addP (pAt v k) o) = some (.agg (((enc x).drop o).take n')) := by
  obtain ⟨id, g, off, n, lim, cap, rfl, hkl, cells, low, top, frz, e', hg, h1, h2, h3, h4⟩ := rd_el h hz hp hk
  have hle : k * sz + sz ≤ n * sz := by rw [← Nat.succ_mul]; exact Nat.mul_le_mul_right _ hkl
  simp only [pAt, addP, loadT_ptr, loadV_at, ha, hs, loadK_agg, hg, rdO_row]
  rw [if_pos ⟨h1, h2, by omega⟩]
  simp only [aggL_some, Option.some.injEq, AV.agg.injEq]
  rw [← h4, List.drop_take, List.take_take, Nat.min_eq_left (by omega), List.drop_drop]
end

/-! ### A slice that grows, whatever its room -/
def capN (n : Nat) : Option Nat → Bool | none => true | some c => decide (c = n)
/-- A slice that an append never writes in place; it may be written. -/
def Gw (S : AS) (v : AV) (sz e : Nat) (cs : List AV) : Prop :=
  Sl S v sz cs ∧ (v = .nils ∨ ∃ id g off n lim cap, v = .slice id g off n lim sz cap ∧ capN n cap = true ∧ id < S.next ∧ ∃ cells low top, S.h.get id = some (.row cells low top false e) ∧ low ≤ g ∧ g = top)
theorem Gw.nil {S : AS} {sz e : Nat} : Gw S .nils sz e [] := ⟨Sl.nil, .inl rfl⟩
theorem Own.gw {S : AS} {lo : Nat} {v : AV} {sz e : Nat} {cs : List AV} (h : Own S lo v sz e cs) : Gw S v sz e cs := by
  refine ⟨h.sl, ?_⟩
  rcases h with ⟨rfl, rfl⟩ | ⟨id, g, low, n, rfl, h1, h2, h3, h4, h5⟩
  · exact .inl rfl
  · exact .inr ⟨id, g, 0, n, n * sz, none, rfl, rfl, h2, cs, low, g, h3, h4, rfl⟩
theorem Gw.agree {S T : AS} {v : AV} {sz e : Nat} {cs : List AV} (h : Gw S v sz e cs) (hs : ∀ id, bnd v = id + 1 → T.h.get id = S.h.get id) (hn : S.next ≤ T.next) : Gw T v sz e cs := by
  obtain ⟨h1, h2⟩ := h
  refine ⟨⟨h1.sl, ?_, h1.len, Nat.le_trans h1.old hn⟩, ?_⟩
  · have hr := h1.rd
    rw [← hr]
    unfold rdS
    split <;> try rfl
    rename_i i g off n lim z _
    cases n with
    | zero => rfl
    | succ n => simp only [rd_at, hs i rfl]
  · rcases h2 with rfl | ⟨id, g, off, n, lim, cap, rfl, hc, hlt, cells, low, top, hg, hl⟩
    · exact .inl rfl
    · exact .inr ⟨id, g, off, n, lim, cap, rfl, hc, Nat.lt_of_lt_of_le hlt hn, cells, low, top, by rw [hs id rfl]; exact hg, hl⟩
/-- A slice whose room is not known. -/
def capNo : AV → Bool | .slice _ _ _ _ _ _ (some _) => false | _ => true
theorem append_gw {cx : Cx} {S : AS} {t u : Nat} {ts : List TypeId} {p : Nat × Nat × Nat} {v x : AV} {cs ds : List AV} {d : TypeDesc} (h : slT cx t = some p) (hu : und cx u = some d) (hd : notInt d = true)
    (ho : Gw S v p.2.1 p.1 cs) (hx : Sl S x p.2.1 ds) (hf : fits (sLen v + sLen x) p.2.2 = true) :
    ∃ v' T, builtinV cx S .append (t :: u :: ts) [v, x] = .val v' T ∧ Gw T v' p.2.1 p.1 (cs ++ ds) ∧ (∀ id, id < S.next → id + 1 ≠ bnd v → T.h.get id = S.h.get id) ∧ S.next ≤ T.next ∧ sLen v' = sLen v + sLen x ∧ (isNil v' = (isNil v && decide (sLen x = 0))) ∧
      (bnd v' = bnd v ∨ S.next < bnd v') ∧ (sLen x ≠ 0 → capNo v' = true) := by
  have ht := taken_sl hx
  have hlen := hx.len
  rw [append_run h hu hd]
  obtain ⟨ho1, ho2⟩ := ho
  cases hn : sLen x with
  | zero =>
    rw [hn] at ht hlen
    have hds : ds = [] := by rw [Nat.zero_mul] at hlen; exact List.length_eq_zero_iff.1 hlen
    subst hds
    refine ⟨v, S, ?_, by rw [List.append_nil]; exact ⟨ho1, ho2⟩, fun _ _ _ => rfl, Nat.le_refl _, rfl, by simp, .inl rfl, fun h => absurd rfl h⟩
    unfold appendV
    rcases ho2 with rfl | ⟨id, g, off, n, lim, cap, rfl, _⟩
    · simp [ht, vals?]
    · simp [ht, nbeq, vals?]
  | succ m =>
    rw [hn] at ht hlen hf
    rcases ho2 with rfl | ⟨id, g, off, n, lim, cap, rfl, hc, hlt, cells, low, top, hg, hl, htq⟩
    · have hcs : cs = [] := by have := ho1.rd; simp only [rdS, Option.some.injEq] at this; exact this.symm
      subst hcs
      have hown : Own (⟨S.h.set S.next (.row ds 0 0 false p.1), S.next + 1⟩ : AS) S.next (.slice S.next 0 0 (m + 1) ((m + 1) * p.2.1) p.2.1 none) p.2.1 p.1 ds :=
        .inr ⟨S.next, 0, 0, m + 1, rfl, Nat.le_refl _, Nat.lt_succ_self _, get_set_same _ _ _, Nat.le_refl _, hlen⟩
      refine ⟨.slice S.next 0 0 (m + 1) ((m + 1) * p.2.1) p.2.1 none, ⟨S.h.set S.next (.row ds 0 0 false p.1), S.next + 1⟩, ?_, hown.gw, fun i hi _ => get_set_ne _ _ (by omega), Nat.le_succ _, by simp [sLen], by simp [isNil], .inr (by simp [bnd]), fun _ => rfl⟩
      unfold appendV
      have hf' : fits (m + 1) p.2.2 = true := by simpa [sLen] using hf
      simp only [ht, hf', cond_true, grown]
      simp [vals?]
    · have htop : g ≤ top := Nat.le_of_eq htq
      have hcl : (cells.drop off).take (n * p.2.1) = cs ∧ cs.length = n * p.2.1 := by
        have h1 := ho1.rd
        have h2 := ho1.len
        simp only [sLen] at h2
        refine ⟨?_, h2⟩
        cases n with
        | zero => simp only [rdS, Option.some.injEq] at h1; subst h1; simp
        | succ n =>
          simp only [rdS, rd_at, hg, rdO_row] at h1
          split at h1
          · simpa using h1
          · cases h1
      obtain ⟨hcl, hcn⟩ := hcl
      have hlen' : (cs ++ ds).length = (n + (m + 1)) * p.2.1 := by rw [List.length_append, hcn, hlen]; exact (Nat.add_mul n (m + 1) p.2.1).symm
      simp only [sLen] at hf
      have e1 : Nat.add n (m + 1) = n + (m + 1) := rfl
      have e2 : Nat.mul n p.2.1 = n * p.2.1 := rfl
      have e3 : Nat.mul (n + (m + 1)) p.2.1 = (n + (m + 1)) * p.2.1 := rfl
      cases cap with
      | some c =>
        simp only [capN, decide_eq_true_eq] at hc
        subst hc
        have hown : Own (⟨S.h.set S.next (.row (cs ++ ds) 0 0 false p.1), S.next + 1⟩ : AS) S.next (.slice S.next 0 0 (c + (m + 1)) ((c + (m + 1)) * p.2.1) p.2.1 none) p.2.1 p.1 (cs ++ ds) :=
          .inr ⟨S.next, 0, 0, c + (m + 1), rfl, Nat.le_refl _, Nat.lt_succ_self _, get_set_same _ _ _, Nat.le_refl _, hlen'⟩
        refine ⟨.slice S.next 0 0 (c + (m + 1)) ((c + (m + 1)) * p.2.1) p.2.1 none, _, ?_, hown.gw, fun i hi _ => get_set_ne _ _ (by omega), Nat.le_succ _, rfl, by simp [isNil], .inr (by simp [bnd]), fun _ => rfl⟩
        unfold appendV
        have e4 : decide (c + (m + 1) ≤ c) = false := by simp
        simp only [ht, nbeq, decide_true, cond_true, hg, nble, hl, htop, Bool.and_self, forceN_eq, e1, hf, e2, e4, cond_false, grown, takeN_eq, dropN_eq, appL_eq, e3, hcl]
        rfl
      | none =>
        unfold appendV
        by_cases hw : (decide (off = 0) && decide (g = top) && decide (cells.length = n * p.2.1)) = true
        · simp only [Bool.and_eq_true, decide_eq_true_eq] at hw
          obtain ⟨⟨rfl, rfl⟩, hw⟩ := hw
          have hcc : cells = cs := by rw [← hcl, List.drop_zero, ← hw, List.take_length]
          subst hcc
          refine ⟨.slice id (g + 1) 0 (n + (m + 1)) ((n + (m + 1)) * p.2.1) p.2.1 none, ⟨S.h.set id (.row (cells ++ ds) low (g + 1) false p.1), S.next⟩, ?_, ?_, fun i hi hne => get_set_ne _ _ (fun e => hne (by simp [bnd, e])), Nat.le_refl _, rfl, by simp [isNil], .inl rfl, fun _ => rfl⟩
          · simp only [ht, nbeq, decide_true, cond_true, hg, nble, hl, Nat.le_refl, Bool.and_self, forceN_eq, e1, hf, Bool.not_true, Bool.or_false, cond_false, lenL_eq, hcn, e2, e3, appL_eq]
            rfl
          · have hown : Own (⟨S.h.set id (.row (cells ++ ds) low (g + 1) false p.1), S.next⟩ : AS) 0 (.slice id (g + 1) 0 (n + (m + 1)) ((n + (m + 1)) * p.2.1) p.2.1 none) p.2.1 p.1 (cells ++ ds) :=
              .inr ⟨id, g + 1, low, n + (m + 1), rfl, Nat.zero_le _, hlt, get_set_same _ _ _, Nat.le_succ_of_le hl, hlen'⟩
            exact hown.gw
        · have hw' : (decide (off = 0) && decide (g = top) && decide (cells.length = n * p.2.1)) = false := by simpa using hw
          refine ⟨.slice id (top + 1) 0 (n + (m + 1)) ((n + (m + 1)) * p.2.1) p.2.1 none, ⟨S.h.set id (.row (cs ++ ds) (top + 1) (top + 1) false p.1), S.next⟩, ?_, ?_, fun i hi hne => get_set_ne _ _ (fun e => hne (by simp [bnd, e])), Nat.le_refl _, rfl, by simp [isNil], .inl rfl, fun _ => rfl⟩
          · simp only [ht, nbeq, decide_true, cond_true, hg, nble, hl, htop, Bool.and_self, forceN_eq, e1, hf, Bool.not_true, Bool.or_false, cond_false, lenL_eq, e2, e3, appL_eq, takeN_eq, dropN_eq, hcl, hw']
            rfl
          · have hown : Own (⟨S.h.set id (.row (cs ++ ds) (top + 1) (top + 1) false p.1), S.next⟩ : AS) 0 (.slice id (top + 1) 0 (n + (m + 1)) ((n + (m + 1)) * p.2.1) p.2.1 none) p.2.1 p.1 (cs ++ ds) :=
              .inr ⟨id, top + 1, top + 1, n + (m + 1), rfl, Nat.zero_le _, hlt, get_set_same _ _ _, Nat.le_refl _, hlen'⟩
            exact hown.gw

/-! ### A cell is written -/
theorem Gw.putc {S : AS} {v x : AV} {sz e : Nat} {cs : List AV} {i o : Nat} (h : Gw S v sz e cs) (hi : i < sLen v) (ho : o < sz) :
    ∃ T, wrV S (addP (pAt v i) o) [x] = some T ∧ Gw T v sz e (cs.set (i * sz + o) x) ∧ (∀ id, id + 1 ≠ bnd v → T.h.get id = S.h.get id) ∧ T.next = S.next := by
  obtain ⟨h1, h2⟩ := h
  rcases h2 with rfl | ⟨id, g, off, n, lim, cap, rfl, hc, hlt, cells, low, top, hg, hl, htq⟩
  · simp [sLen] at hi
  · subst htq
    simp only [sLen] at hi
    obtain ⟨id', g', off', n', lim', cap', e1, cells', low', top', frz', ty', hg', k1, k2, k3, k4⟩ := rdS_some h1 (k := i) hi
    cases e1
    rw [hg] at hg'
    cases hg'
    have hlen := h1.len
    simp only [sLen] at hlen
    have hle : i * sz + sz ≤ n * sz := by rw [← Nat.succ_mul]; exact Nat.mul_le_mul_right _ hi
    have hcl : off + n * sz ≤ cells.length := by
      have := congrArg List.length k4
      rw [List.length_take, List.length_drop, hlen] at this
      by_cases h0 : n * sz = 0
      · omega
      · omega
    have hsp : splice (off + i * sz + o) cells [x] = cells.set (off + i * sz + o) x := by
      rw [splice_eq _ _ _ (by omega), List.set_eq_take_append_cons_drop, if_pos (by omega)]
      simp
    refine ⟨⟨S.h.set id (.row (cells.set (off + i * sz + o) x) g g false e), S.next⟩, ?_, ⟨⟨h1.sl, ?_, by rw [List.length_set]; exact hlen, h1.old⟩, .inr ⟨id, g, off, n, lim, cap, rfl, hc, hlt, _, g, g, get_set_same _ _ _, Nat.le_refl _, rfl⟩⟩, fun j hj => get_set_ne _ _ (fun e => hj (by simp [bnd, e])), rfl⟩
    · simp only [pAt, addP, wrV_ptr, wr_at, hg, wrO_row, List.length_singleton, hsp]
      rw [if_pos (by refine ⟨?_, by omega, ?_⟩ <;> trivial)]
    · obtain ⟨m, rfl⟩ : ∃ m, n = m + 1 := ⟨n - 1, by omega⟩
      simp only [rdS, rd_at, get_set_same, rdO_row]
      rw [if_pos ⟨Nat.le_refl _, Nat.le_refl _, k3⟩]
      congr 1
      rw [← k4]
      apply List.ext_getElem?
      intro j
      rw [List.getElem?_take, List.getElem?_drop, List.getElem?_set, List.getElem?_set, List.getElem?_take, List.getElem?_drop, List.length_take, List.length_drop]
      by_cases hj : j < (m + 1) * sz
      · rw [if_pos hj, if_pos hj]
        by_cases hjj : i * sz + o = j
        · rw [if_pos hjj, if_pos (by omega), if_pos (by omega), if_pos (by omega)]
        · rw [if_neg hjj, if_neg (by omega)]
      · rw [if_neg hj, if_neg hj, if_neg (by omega)]

/-! ### Maps -/
def mget {κ : Type} [DecidableEq κ] : List (κ × AV) → κ → Option AV
  | [], _ => none
  | (a, v) :: m, k => if k = a then some v else mget m k
def mput {κ : Type} [DecidableEq κ] : List (κ × AV) → κ → AV → List (κ × AV)
  | [], k, v => [(k, v)]
  | (a, w) :: m, k, v => if k = a then (k, v) :: m else (a, w) :: mput m k v
theorem mget_mput {κ : Type} [DecidableEq κ] (k : κ) (v : AV) : ∀ (m : List (κ × AV)) (j : κ), mget (mput m k v) j = if j = k then some v else mget m j
  | [], j => by simp [mput, mget]
  | (a, w) :: m, j => by
    unfold mput
    by_cases h : k = a
    · subst h
      simp only [if_true, mget]
      by_cases hj : j = k <;> simp [hj]
    · simp only [h, if_false, mget]
      rw [mget_mput k v m j]
      by_cases hj : j = a
      · subst hj
        have : ¬ j = k := fun e => h e.symm
        simp [this]
      · simp [hj]
/-- Keys that may be compared. -/
structure KeyE {κ : Type} [DecidableEq κ] (d : TypeDesc) (enc : κ → AV) : Prop where
  same : ∀ a b, sameK d (enc a) (enc b) = some (decide (a = b))
  plain : ∀ a, plainKey d (enc a) = true
theorem keyInt (i k : IntKind) : KeyE (.int i) (fun n : Int => AV.int k n) :=
  ⟨fun a b => by
    show cond (kindEq k k) (some (eqI a b)) none = _
    rw [kind_self, cond_true, eqI_eq], fun _ => rfl⟩
noncomputable def mapK (cx : Cx) (t : TypeId) : Option (TypeDesc × AV) := match und cx t with
  | some (.map kt et) => match und cx kt, zeroOf cx et with
    | some d, some z => some (d, z)
    | _, _ => none
  | _ => none
theorem mapK_und {cx : Cx} {t : TypeId} {p : TypeDesc × AV} (h : mapK cx t = some p) : ∃ kt et, und cx t = some (.map kt et) ∧ und cx kt = some p.1 ∧ zeroOf cx et = some p.2 := by
  unfold mapK at h
  split at h
  · rename_i kt et hu
    split at h
    · rename_i d z h1 h2
      cases h
      exact ⟨kt, et, hu, h1, h2⟩
    · cases h
  · cases h
/-- What a map holds. -/
def Mp {κ : Type} (S : AS) (x : AV) (enc : κ → AV) (m : List (κ × AV)) : Prop :=
  ∃ id es clock, x = .map id ∧ id < S.next ∧ S.h.get id = some (.map es clock) ∧ es.map (fun e => (e.key, e.val)) = m.map (fun p => (enc p.1, p.2))
theorem Mp.agree {κ : Type} {S T : AS} {x : AV} {enc : κ → AV} {m : List (κ × AV)} (h : Mp S x enc m) (hs : ∀ id, bnd x = id + 1 → T.h.get id = S.h.get id) (hn : S.next ≤ T.next) : Mp T x enc m := by
  obtain ⟨id, es, clock, rfl, h1, h2, h3⟩ := h
  exact ⟨id, es, clock, rfl, Nat.lt_of_lt_of_le h1 hn, by rw [hs id rfl]; exact h2, h3⟩
theorem findE_of {κ : Type} [DecidableEq κ] {d : TypeDesc} {enc : κ → AV} (hk : KeyE d enc) (k : κ) (v : AV) (clock : Nat) : ∀ (es : List AEnt) (m : List (κ × AV)) (i : Nat), es.map (fun e => (e.key, e.val)) = m.map (fun p => (enc p.1, p.2)) →
    (∃ j e, findE d (enc k) es i = some (some (i + j, e)) ∧ j < es.length ∧ mget m k = some e.val ∧ (setNth j es ⟨enc k, v, e.born⟩).map (fun e => (e.key, e.val)) = (mput m k v).map (fun p => (enc p.1, p.2))) ∨
    (findE d (enc k) es i = some none ∧ mget m k = none ∧ (appL es [⟨enc k, v, clock⟩]).map (fun e => (e.key, e.val)) = (mput m k v).map (fun p => (enc p.1, p.2)))
  | [], m, i, h => by
    cases m with
    | nil => exact .inr ⟨rfl, rfl, rfl⟩
    | cons p m => simp at h
  | e :: es, m, i, h => by
    cases m with
    | nil => simp at h
    | cons p m =>
      obtain ⟨a, w⟩ := p
      simp only [List.map_cons, List.cons.injEq, Prod.mk.injEq] at h
      obtain ⟨⟨h1, h2⟩, h3⟩ := h
      have hs : findE d (enc k) (e :: es) i = (match sameK d (enc k) e.key with | some true => some (some (i, e)) | some false => findE d (enc k) es (Nat.succ i) | none => none) := rfl
      rw [hs, h1, hk.same]
      by_cases hka : k = a
      · subst hka
        refine .inl ⟨0, e, by simp, by simp, by simp [mget, h2], ?_⟩
        show ((⟨enc k, v, e.born⟩ : AEnt) :: es).map _ = _
        simp [mput, h3]
      · rcases findE_of hk k v clock es m (i + 1) h3 with ⟨j, e', g1, g2, g3, g4⟩ | ⟨g1, g2, g3⟩
        · refine .inl ⟨j + 1, e', ?_, by simp; omega, by simp [mget, hka, g3], ?_⟩
          · have : (i + 1 + j, e') = (i + (j + 1), e') := by rw [Nat.add_assoc, Nat.add_comm 1 j]
            simp only [hka, decide_false]
            rw [← this]; exact g1
          · show (e :: setNth j es ⟨enc k, v, e'.born⟩).map _ = _
            simp [mput, hka, g4, h1, h2]
        · refine .inr ⟨by simp only [hka, decide_false]; exact g1, by simp [mget, hka, g2], ?_⟩
          show (e :: appL es [⟨enc k, v, clock⟩]).map _ = _
          simp [mput, hka, g3, h1, h2]
theorem lookup_mp {κ : Type} [DecidableEq κ] {cx : Cx} {S : AS} {t : TypeId} {p : TypeDesc × AV} {x : AV} {enc : κ → AV} {m : List (κ × AV)} {k : κ} {ok : Bool} (h : mapK cx t = some p) (hk : KeyE p.1 enc) (hm : Mp S x enc m) :
    lookupV cx S t x (enc k) ok = some (match mget m k with | some v => cond ok (.tuple [v, .bool true]) v | none => cond ok (.tuple [p.2, .bool false]) p.2) := by
  obtain ⟨kt, et, h1, h2, h3⟩ := mapK_und h
  obtain ⟨id, es, clock, rfl, h4, h5, h6⟩ := hm
  unfold lookupV
  simp only [h1, h2, h3, hk.plain, cond_true, h5]
  rcases findE_of hk k .undef 0 es m 0 h6 with ⟨j, e, g1, _, g3, _⟩ | ⟨g1, g2, _⟩
  · rw [g1, g3]
  · rw [g1, g2]
theorem lookup_nil {κ : Type} [DecidableEq κ] {cx : Cx} {S : AS} {t : TypeId} {p : TypeDesc × AV} {enc : κ → AV} {k : κ} {ok : Bool} (h : mapK cx t = some p) (hk : KeyE p.1 enc) :
    lookupV cx S t .nilm (enc k) ok = some (cond ok (.tuple [p.2, .bool false]) p.2) := by
  obtain ⟨kt, et, h1, h2, h3⟩ := mapK_und h
  unfold lookupV
  simp only [h1, h2, h3, hk.plain, cond_true]
theorem update_mp {κ : Type} [DecidableEq κ] {cx : Cx} {S : AS} {t : TypeId} {p : TypeDesc × AV} {x v : AV} {enc : κ → AV} {m : List (κ × AV)} {k : κ} (h : mapK cx t = some p) (hk : KeyE p.1 enc) (hm : Mp S x enc m) :
    ∃ T, updateV cx S t x (enc k) v = some (.undef, T) ∧ Mp T x enc (mput m k v) ∧ (∀ id, bnd x ≠ id + 1 → T.h.get id = S.h.get id) ∧ T.next = S.next := by
  obtain ⟨kt, et, h1, h2, h3⟩ := mapK_und h
  obtain ⟨id, es, clock, rfl, h4, h5, h6⟩ := hm
  unfold updateV
  simp only [h1, h2, hk.plain, cond_true, h5]
  rcases findE_of hk k v clock es m 0 h6 with ⟨j, e, g1, _, _, g4⟩ | ⟨g1, _, g3⟩
  · rw [g1]
    simp only [Nat.zero_add]
    exact ⟨_, rfl, ⟨id, _, _, rfl, h4, get_set_same _ _ _, g4⟩, fun i hi => get_set_ne _ _ (fun e => hi (by simp [bnd, e])), rfl⟩
  · rw [g1]
    exact ⟨_, rfl, ⟨id, _, _, rfl, h4, get_set_same _ _ _, g3⟩, fun i hi => get_set_ne _ _ (fun e => hi (by simp [bnd, e])), rfl⟩

/-! ### Slices laid at once -/
theorem fill_els {F : Fr} {cx : Cx} {sz : Nat} : ∀ (l : List (Nat × Operand)) (k : Nat) (pre z : List AV) (vs : List (List AV)), pre.length = k * sz → l.map (·.1) = List.range' k l.length → l.map (fun p => cellsOf (eval F p.2)) = vs.map some → (∀ v, v ∈ vs → v.length = sz) → z.length = l.length * sz →
    fillL cx F (fun i => some (Nat.mul i sz, sz)) l (pre ++ z) = some (pre ++ vs.flatten)
  | [], k, pre, z, vs, _, _, hv, _, hz => by
    cases vs with
    | nil => have : z = [] := List.length_eq_zero_iff.1 (by simpa using hz); subst this; rfl
    | cons v vs => simp at hv
  | q :: l, k, pre, z, vs, hp, hi, hv, hs, hz => by
    cases vs with
    | nil => simp at hv
    | cons v vs =>
      simp only [List.map_cons, List.cons.injEq, List.length_cons, List.range'_succ] at hi hv hz
      have hvl : v.length = sz := hs v (by simp)
      have hzl : sz ≤ z.length := by rw [hz, Nat.succ_mul]; omega
      show (match (some (Nat.mul q.1 sz, sz) : Option (Nat × Nat)), cellsOf (eval F q.2) with
        | some (off, size), some new => cond (Nat.beq (lenL new) size && Nat.ble (Nat.add off size) (lenL (pre ++ z))) (fillL cx F (fun i => some (Nat.mul i sz, sz)) l (Am.splice off (pre ++ z) new)) none
        | _, _ => none) = _
      rw [hv.1, hi.1]
      have e1 : Nat.mul k sz = k * sz := rfl
      have e2 : Nat.add (k * sz) sz = k * sz + sz := rfl
      simp only [lenL_eq, nbeq, nble, hvl, e1, e2, List.length_append, hp]
      have h2 : decide (k * sz + sz ≤ k * sz + z.length) = true := by simp [hzl]
      rw [h2]
      simp only [decide_true, Bool.and_self, cond_true]
      have h3 : Am.splice (k * sz) (pre ++ z) v = (pre ++ v) ++ z.drop sz := by
        rw [splice_eq _ _ _ (by simp; omega), ← hp, List.take_left, hvl, ← List.drop_drop, List.drop_left]
      rw [h3, fill_els l (k + 1) (pre ++ v) (z.drop sz) vs (by simp [hp, hvl, Nat.succ_mul]) hi.2 hv.2 (fun u hu => hs u (by simp [hu])) (by rw [List.length_drop, hz, Nat.succ_mul]; omega)]
      simp
theorem repL_length {z : List AV} (n : Nat) : (repL n z).length = n * z.length := by
  induction n with
  | zero => show ([] : List AV).length = _; simp
  | succ n ih =>
    show (appL z (repL n z)).length = _
    rw [appL_eq, List.length_append, ih, Nat.succ_mul, Nat.add_comm]
theorem freshV_els {cx : Cx} {F : Fr} {t : TypeId} {p : Nat × Nat × Nat} {id n : Nat} {a : Array (Nat × Operand)} (vs : List (List AV)) (h : slT cx t = some p) (hi : a.toList.map (·.1) = List.range n) (hx : a.toList.map (fun q => cellsOf (eval F q.2)) = vs.map some) (hl : ∀ v, v ∈ vs → v.length = p.2.1) (hn : n * p.2.1 ≤ 16777216) :
    freshV cx F id (.buildSlice t n a) = some (.slice id 0 0 n (n * p.2.1) p.2.1 (some n), .row vs.flatten 0 0 false p.1) := by
  obtain ⟨hu, hs, hb, hz, hp⟩ := slT_und h
  obtain ⟨e, sz, bs⟩ := p
  simp only at hu hs hb hz hp hl hn
  obtain ⟨z0, rfl⟩ : ∃ z0, sz = z0 + 1 := ⟨sz - 1, by omega⟩
  have hal : a.toList.length = n := by have := congrArg List.length hi; simpa using this
  unfold zeroOk at hz
  cases hzz : zeroOf cx e with
  | none => rw [hzz] at hz; cases hz
  | some z =>
    rw [hzz] at hz
    cases hc : cellsOf z with
    | none => simp [hc] at hz
    | some zl =>
      simp only [hc] at hz
      simp only [nbeq, lenL_eq, decide_eq_true_eq] at hz
      unfold freshV
      simp only [hu, hs, hzz, hc]
      have e1 : Nat.succ z0 = z0 + 1 := rfl
      have e2 : Nat.mul n (z0 + 1) = n * (z0 + 1) := rfl
      have hb : (Nat.beq (lenL zl) (Nat.succ z0) && Nat.ble (Nat.mul n (Nat.succ z0)) 16777216) = true := by
        simp only [nbeq, nble, lenL_eq, e1, e2, hz, hn, decide_true, Bool.and_self]
      rw [hb]
      simp only [cond_true]
      have hf : fillL cx F (fun i => some (Nat.mul i (z0 + 1), z0 + 1)) a.toList (repL n zl) = some vs.flatten := by
        have := fill_els (cx := cx) (F := F) (sz := z0 + 1) a.toList 0 [] (repL n zl) vs (by simp) (by rw [hal, hi, List.range_eq_range']) hx hl (by rw [repL_length, hz, hal])
        simpa using this
      show (match fillL cx F (fun i => some (Nat.mul i (z0 + 1), z0 + 1)) a.toList (repL n zl) with | some cells => some (AV.slice id 0 0 n (Nat.mul n (z0 + 1)) (z0 + 1) (some n), AObj.row cells 0 0 false e) | none => none) = _
      rw [hf]
      rfl

/-! ### Footprints -/
/-- What is not A's has stayed. -/
structure Keep (A : Nat → Prop) (S T : AS) : Prop where
  h : ∀ id, id < S.next → ¬ A id → T.h.get id = S.h.get id
  next : S.next ≤ T.next
theorem Keep.refl {A : Nat → Prop} {S : AS} : Keep A S S := ⟨fun _ _ _ => rfl, Nat.le_refl _⟩
theorem Keep.trans {A : Nat → Prop} {R S T : AS} (h : Keep A R S) (k : Keep A S T) : Keep A R T := ⟨fun id h1 h2 => (k.h id (Nat.lt_of_lt_of_le h1 h.next) h2).trans (h.h id h1 h2), Nat.le_trans h.next k.next⟩
theorem Keep.mono {A B : Nat → Prop} {S T : AS} (h : Keep A S T) (hs : ∀ id, id < S.next → A id → B id) : Keep B S T := ⟨fun id h1 h2 => h.h id h1 fun ha => h2 (hs id h1 ha), h.next⟩
theorem Keep.set {A : Nat → Prop} {R S : AS} (h : Keep A R S) {id n : Nat} {o : AObj} (hi : R.next ≤ id ∨ A id) (hn : S.next ≤ n) : Keep A R ⟨S.h.set id o, n⟩ :=
  ⟨fun i h1 h2 => by
    show (S.h.set id o).get i = _
    rw [get_set_ne _ _ (by rcases hi with hi | hi; omega; exact fun e => h2 (e ▸ hi))]; exact h.h i h1 h2, Nat.le_trans h.next hn⟩
theorem Sub.keep {A : Nat → Prop} {S T : AS} (h : Sub S T) : Keep A S T := ⟨fun id h1 _ => h.h id h1, h.next⟩
theorem Sl.agree {S T : AS} {v : AV} {sz : Nat} {cs : List AV} (h : Sl S v sz cs) (hs : ∀ id, bnd v = id + 1 → T.h.get id = S.h.get id) (hn : S.next ≤ T.next) : Sl T v sz cs := by
  refine ⟨h.sl, ?_, h.len, Nat.le_trans h.old hn⟩
  rw [← h.rd]
  unfold rdS
  split <;> try rfl
  rename_i i g off n lim z _
  cases n with
  | zero => rfl
  | succ n => simp only [rd_at, hs i rfl]
end Go.Am

namespace Go.Am
open Go
set_option linter.unusedVariables false
set_option linter.unusedSimpArgs false

theorem append_gwt {cx : Cx} {S : AS} {t u : Nat} {ts : List TypeId} {p : Nat × Nat × Nat} {v x : AV} {cs ds : List AV} {d : TypeDesc} (h : slT cx t = some p) (hu : und cx u = some d) (hd : notInt d = true)
    (ho : Gw S v p.2.1 p.1 cs) {nx : Nat} (ht : taken S p.2.1 x = some (nx, ds)) (hlen : ds.length = nx * p.2.1) (hf : fits (sLen v + nx) p.2.2 = true) :
    ∃ v' T, builtinV cx S .append (t :: u :: ts) [v, x] = .val v' T ∧ Gw T v' p.2.1 p.1 (cs ++ ds) ∧ (∀ id, id < S.next → id + 1 ≠ bnd v → T.h.get id = S.h.get id) ∧ S.next ≤ T.next ∧ sLen v' = sLen v + nx ∧ (isNil v' = (isNil v && decide (nx = 0))) ∧
      (bnd v' = bnd v ∨ S.next < bnd v') ∧ (nx ≠ 0 → capNo v' = true) := by
  rw [append_run h hu hd]
  obtain ⟨ho1, ho2⟩ := ho
  cases hn : nx with
  | zero =>
    rw [hn] at ht hlen
    have hds : ds = [] := by rw [Nat.zero_mul] at hlen; exact List.length_eq_zero_iff.1 hlen
    subst hds
    refine ⟨v, S, ?_, by rw [List.append_nil]; exact ⟨ho1, ho2⟩, fun _ _ _ => rfl, Nat.le_refl _, rfl, by simp, .inl rfl, fun h => absurd rfl h⟩
    unfold appendV
    rcases ho2 with rfl | ⟨id, g, off, n, lim, cap, rfl, _⟩
    · simp [ht, vals?]
    · simp [ht, nbeq, vals?]
  | succ m =>
    rw [hn] at ht hlen hf
    rcases ho2 with rfl | ⟨id, g, off, n, lim, cap, rfl, hc, hlt, cells, low, top, hg, hl, htq⟩
    · have hcs : cs = [] := by have := ho1.rd; simp only [rdS, Option.some.injEq] at this; exact this.symm
      subst hcs
      have hown : Own (⟨S.h.set S.next (.row ds 0 0 false p.1), S.next + 1⟩ : AS) S.next (.slice S.next 0 0 (m + 1) ((m + 1) * p.2.1) p.2.1 none) p.2.1 p.1 ds :=
        .inr ⟨S.next, 0, 0, m + 1, rfl, Nat.le_refl _, Nat.lt_succ_self _, get_set_same _ _ _, Nat.le_refl _, hlen⟩
      refine ⟨.slice S.next 0 0 (m + 1) ((m + 1) * p.2.1) p.2.1 none, ⟨S.h.set S.next (.row ds 0 0 false p.1), S.next + 1⟩, ?_, hown.gw, fun i hi _ => get_set_ne _ _ (by omega), Nat.le_succ _, by simp [sLen], by simp [isNil], .inr (by simp [bnd]), fun _ => rfl⟩
      unfold appendV
      have hf' : fits (m + 1) p.2.2 = true := by simpa [sLen] using hf
      simp only [ht, hf', cond_true, grown]
      simp [vals?]
    · have htop : g ≤ top := Nat.le_of_eq htq
      have hcl : (cells.drop off).take (n * p.2.1) = cs ∧ cs.length = n * p.2.1 := by
        have h1 := ho1.rd
        have h2 := ho1.len
        simp only [sLen] at h2
        refine ⟨?_, h2⟩
        cases n with
        | zero => simp only [rdS, Option.some.injEq] at h1; subst h1; simp
        | succ n =>
          simp only [rdS, rd_at, hg, rdO_row] at h1
          split at h1
          · simpa using h1
          · cases h1
      obtain ⟨hcl, hcn⟩ := hcl
      have hlen' : (cs ++ ds).length = (n + (m + 1)) * p.2.1 := by rw [List.length_append, hcn, hlen]; exact (Nat.add_mul n (m + 1) p.2.1).symm
      simp only [sLen] at hf
      have e1 : Nat.add n (m + 1) = n + (m + 1) := rfl
      have e2 : Nat.mul n p.2.1 = n * p.2.1 := rfl
      have e3 : Nat.mul (n + (m + 1)) p.2.1 = (n + (m + 1)) * p.2.1 := rfl
      cases cap with
      | some c =>
        simp only [capN, decide_eq_true_eq] at hc
        subst hc
        have hown : Own (⟨S.h.set S.next (.row (cs ++ ds) 0 0 false p.1), S.next + 1⟩ : AS) S.next (.slice S.next 0 0 (c + (m + 1)) ((c + (m + 1)) * p.2.1) p.2.1 none) p.2.1 p.1 (cs ++ ds) :=
          .inr ⟨S.next, 0, 0, c + (m + 1), rfl, Nat.le_refl _, Nat.lt_succ_self _, get_set_same _ _ _, Nat.le_refl _, hlen'⟩
        refine ⟨.slice S.next 0 0 (c + (m + 1)) ((c + (m + 1)) * p.2.1) p.2.1 none, _, ?_, hown.gw, fun i hi _ => get_set_ne _ _ (by omega), Nat.le_succ _, rfl, by simp [isNil], .inr (by simp [bnd]), fun _ => rfl⟩
        unfold appendV
        have e4 : decide (c + (m + 1) ≤ c) = false := by simp
        simp only [ht, nbeq, decide_true, cond_true, hg, nble, hl, htop, Bool.and_self, forceN_eq, e1, hf, e2, e4, cond_false, grown, takeN_eq, dropN_eq, appL_eq, e3, hcl]
        rfl
      | none =>
        unfold appendV
        by_cases hw : (decide (off = 0) && decide (g = top) && decide (cells.length = n * p.2.1)) = true
        · simp only [Bool.and_eq_true, decide_eq_true_eq] at hw
          obtain ⟨⟨rfl, rfl⟩, hw⟩ := hw
          have hcc : cells = cs := by rw [← hcl, List.drop_zero, ← hw, List.take_length]
          subst hcc
          refine ⟨.slice id (g + 1) 0 (n + (m + 1)) ((n + (m + 1)) * p.2.1) p.2.1 none, ⟨S.h.set id (.row (cells ++ ds) low (g + 1) false p.1), S.next⟩, ?_, ?_, fun i hi hne => get_set_ne _ _ (fun e => hne (by simp [bnd, e])), Nat.le_refl _, rfl, by simp [isNil], .inl rfl, fun _ => rfl⟩
          · simp only [ht, nbeq, decide_true, cond_true, hg, nble, hl, Nat.le_refl, Bool.and_self, forceN_eq, e1, hf, Bool.not_true, Bool.or_false, cond_false, lenL_eq, hcn, e2, e3, appL_eq]
            rfl
          · have hown : Own (⟨S.h.set id (.row (cells ++ ds) low (g + 1) false p.1), S.next⟩ : AS) 0 (.slice id (g + 1) 0 (n + (m + 1)) ((n + (m + 1)) * p.2.1) p.2.1 none) p.2.1 p.1 (cells ++ ds) :=
              .inr ⟨id, g + 1, low, n + (m + 1), rfl, Nat.zero_le _, hlt, get_set_same _ _ _, Nat.le_succ_of_le hl, hlen'⟩
            exact hown.gw
        · have hw' : (decide (off = 0) && decide (g = top) && decide (cells.length = n * p.2.1)) = false := by simpa using hw
          refine ⟨.slice id (top + 1) 0 (n + (m + 1)) ((n + (m + 1)) * p.2.1) p.2.1 none, ⟨S.h.set id (.row (cs ++ ds) (top + 1) (top + 1) false p.1), S.next⟩, ?_, ?_, fun i hi hne => get_set_ne _ _ (fun e => hne (by simp [bnd, e])), Nat.le_refl _, rfl, by simp [isNil], .inl rfl, fun _ => rfl⟩
          · simp only [ht, nbeq, decide_true, cond_true, hg, nble, hl, htop, Bool.and_self, forceN_eq, e1, hf, Bool.not_true, Bool.or_false, cond_false, lenL_eq, e2, e3, appL_eq, takeN_eq, dropN_eq, hcl, hw']
            rfl
          · have hown : Own (⟨S.h.set id (.row (cs ++ ds) (top + 1) (top + 1) false p.1), S.next⟩ : AS) 0 (.slice id (top + 1) 0 (n + (m + 1)) ((n + (m + 1)) * p.2.1) p.2.1 none) p.2.1 p.1 (cs ++ ds) :=
              .inr ⟨id, top + 1, top + 1, n + (m + 1), rfl, Nat.zero_le _, hlt, get_set_same _ _ _, Nat.le_refl _, hlen'⟩
            exact hown.gw

/-! ### Bytes -/
def bytA (l : List Nat) : List AV := l.map fun n : Nat => AV.int .u8 (n : Int)
theorem bytA_len (l : List Nat) : (bytA l).length = l.length := by simp [bytA]
theorem bytA_app (l m : List Nat) : bytA l ++ bytA m = bytA (l ++ m) := by simp [bytA]
theorem bytA_one (n : Nat) : [AV.int .u8 (n : Int)] = bytA [n] := rfl
theorem mapL_bytA (s : List Nat) : mapL (fun n => AV.int .u8 (.ofNat n)) s = bytA s := by
  induction s with
  | nil => rfl
  | cons x s ih => show AV.int .u8 (.ofNat x) :: mapL _ s = AV.int .u8 (x : Int) :: bytA s; rw [ih]; rfl
theorem bytesL_bytA : ∀ (s : List Nat), (∀ c, c ∈ s → c < 256) → bytesL (bytA s) = some s
  | [], _ => rfl
  | x :: s, h => by
    show bytesStep (.int .u8 (x : Int)) (bytesL (bytA s)) = _
    rw [bytesL_bytA s fun c hc => h c (List.mem_cons_of_mem _ hc)]
    have hx := h x (List.mem_cons_self ..)
    show cond (Nat.blt x 256) (some (x :: s)) none = _
    rw [nblt]; simp [hx]
noncomputable def strT (cx : Cx) (t : TypeId) : Bool := match und cx t with | some .string => true | _ => false
theorem strT_und {cx : Cx} {t : TypeId} (h : strT cx t = true) : und cx t = some .string := by
  unfold strT at h
  split at h
  · assumption
  · cases h
noncomputable def bytE (cx : Cx) (t : TypeId) : Option TypeId := match und cx t with | some (.slice e) => (match und cx e with | some (.int .u8) => some e | _ => none) | _ => none
theorem bytE_und {cx : Cx} {t e : TypeId} (h : bytE cx t = some e) : und cx t = some (.slice e) ∧ und cx e = some (.int .u8) := by
  unfold bytE at h
  split at h
  · rename_i e' h1
    split at h
    · rename_i h2; cases h; exact ⟨h1, h2⟩
    · cases h
  · cases h
def strOf : AV → Option (List Nat) | .str s => some s | _ => none
theorem strOf_str {s : List Nat} : strOf (.str s) = some s := rfl
section
variable {cx : Cx} {F : Fr} {S : AS} {dst : Option Tmp} {ty : TypeId} {pos : String} {af : Array Edge} {gd : Option (Nat × Bool)}
theorem aop_index_text {t : TypeId} {x ix : Operand} {v w : AV} {s : List Nat} {i c : Nat} (hx : eval F x = v) (hv : strOf v = some s) (hi : eval F ix = w) (hw : natOf w = some i) (h : strT cx t = true) (hc : s[i]? = some c) :
    aop cx F S ⟨dst, .index t x ix, ty, pos, af, gd⟩ = .val (.int .u8 c) S := by
  subst hx hi
  have hu := strT_und h
  cases hx : eval F x <;> rw [hx] at hv <;> simp only [strOf] at hv <;> cases hv
  have hc' : nth i s = some c := by rw [nth_eq]; exact hc
  simp only [aop, hu, hx, hw, hc']; rfl
theorem sliceV_text {t : TypeId} {s : List Nat} {lo hi : Option Operand} {l k : Nat} (h : strT cx t = true) (hl : bound F lo 0 = some l) (hh : bound F hi s.length = some k) (h1 : l ≤ k) (h2 : k ≤ s.length) :
    sliceV cx F t (.str s) lo hi none = some (.str ((s.drop l).take (k - l))) := by
  have hb : bounds F s.length s.length lo hi none = some (l, k, s.length) := by
    unfold bounds
    rw [hl, hh]
    have e : bound F none s.length = some s.length := rfl
    rw [e]
    simp [nble, h1, h2, isS]
  unfold sliceV
  simp only [strT_und h, hb, takeN_eq, dropN_eq]
  rfl
theorem aop_bytes {a b e : TypeId} {x : Operand} {v : AV} {s : List Nat} (hx : eval F x = v) (hv : strOf v = some s) (ha : strT cx a = true) (hb : bytE cx b = some e) :
    aop cx F S ⟨dst, .convert a b x, ty, pos, af, gd⟩ = .val (.slice S.next 0 0 s.length s.length 1 none) ⟨S.h.set S.next (.row (bytA s) 0 0 true e), S.next + 1⟩ := by
  subst hx
  cases hx : eval F x <;> rw [hx] at hv <;> simp only [strOf] at hv <;> cases hv
  obtain ⟨h1, h2⟩ := bytE_und hb
  simp only [aop, strT_und ha, h1, h2, hx, mapL_bytA]
theorem aop_text {a b e : TypeId} {x : Operand} {v : AV} {s : List Nat} (h : Sl S v 1 (bytA s)) (hs : ∀ c, c ∈ s → c < 256) (hx : eval F x = v) (ha : bytE cx a = some e) (hb : strT cx b = true) :
    aop cx F S ⟨dst, .convert a b x, ty, pos, af, gd⟩ = .val (.str s) S := by
  obtain ⟨h1, h2⟩ := bytE_und ha
  have hlen := h.len
  rw [bytA_len, Nat.mul_one] at hlen
  rcases h.cases with rfl | ⟨id, g, off, n, lim, cap, rfl⟩
  · have : s = [] := List.length_eq_zero_iff.1 (by rw [hlen]; rfl)
    subst this
    simp only [aop, h1, strT_und hb, hx, h2]
  · have hrd := h.rd
    simp only [sLen] at hlen
    cases n with
    | zero =>
      have : s = [] := List.length_eq_zero_iff.1 hlen
      subst this
      simp only [aop, h1, strT_und hb, hx, h2]
    | succ n =>
      simp only [rdS, Nat.mul_one] at hrd
      simp only [aop, h1, strT_und hb, hx, h2]
      rw [hrd]
      simp only [bytesL_bytA s hs]
end
theorem copy_text {cx : Cx} {S : AS} {t e e' id : Nat} {ts : List TypeId} {cap : Option Nat} {s : List Nat} {cells : List AV} (hu : und cx t = some (.slice e)) (hz : szOf cx e = some 1) (hn : s ≠ []) (h : S.h.get id = some (.row cells 0 0 false e')) (hl : cells.length = s.length) :
    builtinV cx S .copy (t :: ts) [.slice id 0 0 s.length s.length 1 cap, .str s] = .val (.int .i64 s.length) ⟨S.h.set id (.row (bytA s) 0 0 false e'), S.next⟩ := by
  obtain ⟨m, hm⟩ : ∃ m, s.length = m + 1 := ⟨s.length - 1, by have := List.length_pos_iff.2 hn; omega⟩
  have hw : wr S id 0 0 s.length (takeN (Nat.mul s.length 1) (bytA s)) = some ⟨S.h.set id (.row (bytA s) 0 0 false e'), S.next⟩ := by
    have h1 : takeN (Nat.mul s.length 1) (bytA s) = bytA s := by
      rw [takeN_eq]
      exact List.take_of_length_le (by rw [bytA_len]; show s.length ≤ s.length * 1; omega)
    rw [h1, wr_at, h, wrO_row, if_pos ⟨rfl, by rw [bytA_len]; omega, rfl⟩, splice_eq _ _ _ (Nat.zero_le _)]
    simp only [List.take_zero, List.nil_append, Nat.zero_add, bytA_len]
    rw [List.drop_eq_nil_of_le (by omega), List.append_nil]
  have hc : copyV S 1 (.slice id 0 0 s.length s.length 1 cap) (.str s) = some (.int .i64 s.length, ⟨S.h.set id (.row (bytA s) 0 0 false e'), S.next⟩) := by
    have ht : taken S 1 (.str s) = some (s.length, bytA s) := by
      show cond (Nat.beq 1 1) (some (s.length, mapL _ s)) none = _
      rw [mapL_bytA]; rfl
    unfold copyV
    rw [ht]
    have e1 : Nat.min s.length s.length = s.length := Nat.min_self _
    show cond (Nat.beq 1 1) _ none = _
    simp only [e1]
    rw [hm] at hw ⊢
    show (match wr S id 0 0 (m + 1) (takeN (Nat.mul (m + 1) 1) (bytA s)) with | some S' => some (AV.int .i64 (.ofNat (m + 1)), S') | none => none) = _
    rw [hw]
    rfl
  show (match und cx t with | some (.slice e) => (match szOf cx e with | some (Nat.succ z) => vals? (copyV S (Nat.succ z) (.slice id 0 0 s.length s.length 1 cap) (.str s)) 7 | _ => .err 8) | _ => .err 9) = _
  simp only [hu, hz]
  show vals? (copyV S 1 (.slice id 0 0 s.length s.length 1 cap) (.str s)) 7 = _
  rw [hc]
  rfl
theorem ustr_text {cx : Cx} {S : AS} {t e id g off n lim low top : Nat} {frz : Bool} {ts : List TypeId} {k : IntKind} {s : List Nat} {cells : List AV} (hu : und cx t = some (.pointer e)) (he : und cx e = some (.int .u8)) (hz : szOf cx e = some 1) (hn : 0 < n) (hl : n ≤ 4611686018427387904)
    (h : S.h.get id = some (.row cells low top frz e)) (hf : mayFrz frz low = true) (hr : rd S id g off n lim = some (bytA s)) (hs : ∀ c, c ∈ s → c < 256) :
    builtinV cx S .unsafeString (t :: ts) [.ptr id g off lim, .int k (n : Int)] = .val (.str s) ⟨S.h.set id (.row cells low top true e), S.next⟩ := by
  obtain ⟨m, rfl⟩ : ∃ m, n = m + 1 := ⟨n - 1, by omega⟩
  show vals? (ustrV cx S t (.ptr id g off lim) (m + 1)) 15 = _
  unfold ustrV
  simp only [hu, he, hz, h]
  have e1 : (Nat.beq e e && Nat.ble (m + 1) 4611686018427387904 && mayFrz frz low) = true := by rw [hf, nbeq, nble]; simp [hl]
  rw [e1]
  simp only [cond_true, hr, bytesL_bytA s hs]
  rfl
end Go.Am
