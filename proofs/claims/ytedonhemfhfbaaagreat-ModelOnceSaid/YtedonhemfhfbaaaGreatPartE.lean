/-
  Cells of a slice are written anew, cleared, cut off.
  slices.Contains, slices.DeleteFunc of what was told.
  slices.DeleteFunc.
  Ack.
  Publish; a new book.
  A history of events, all durable.
  An event of one number; Tell of an item.
  What one call of ModelOwn does to a book.
  ModelOwn: two books.
  The last bit of a number.
-/
import Derived.Test.YtedonhemfhfbaaaGreatPartC
namespace Go.Proofs.YtedonhemfhfbaaaGreat.mod
open Go Go.Am
set_option linter.unusedVariables false
set_option linter.unusedSimpArgs false

theorem get_mid {α : Type} {l m r : List α} {j : Nat} : (l ++ m ++ r)[j]? = if j < l.length then l[j]? else if j < l.length + m.length then m[j - l.length]? else r[j - l.length - m.length]? := by
  rw [List.append_assoc, List.getElem?_append]
  split
  · rfl
  · rename_i h
    rw [List.getElem?_append]
    by_cases h2 : j < l.length + m.length
    · rw [if_pos (by omega), if_pos h2]
    · rw [if_neg (by omega), if_neg h2]
theorem gw_putw {S : AS} {id g off n lim sz e c : Nat} {cap : Option Nat} {cs new : List AV} (h : Gw S (.slice id g off n lim sz cap) sz e cs) (hn : 0 < n) (hz : 0 < sz) (hc : c + new.length ≤ n * sz) :
    ∃ T, wr S id g (off + c) lim new = some T ∧ Gw T (.slice id g off n lim sz cap) sz e (cs.take c ++ new ++ cs.drop (c + new.length)) ∧ (∀ j, j ≠ id → T.h.get j = S.h.get j) ∧ T.next = S.next := by
  obtain ⟨h1, h2⟩ := h
  rcases h2 with e1 | ⟨id', g', off', n', lim', cap', e1, hcp, hlt, cells, low, top, hg, hl, htq⟩
  · cases e1
  · cases e1
    subst htq
    obtain ⟨id'', g'', off'', n'', lim'', cap'', e2, cells', low', top', frz', ty', hg', k1, k2, k3, k4⟩ := rdS_some h1 (k := 0) (by simpa [sLen] using hn)
    cases e2
    rw [hg] at hg'
    cases hg'
    have hlen := h1.len
    simp only [sLen] at hlen
    have hpos : 0 < n * sz := Nat.mul_pos hn hz
    have hcl : cs.length ≤ cells.length - off := by rw [← k4, List.length_take, List.length_drop]; omega
    have hsp := splice_eq (off + c) cells new (by omega)
    refine ⟨⟨S.h.set id (.row (cells.take (off + c) ++ new ++ cells.drop (off + c + new.length)) g g false e), S.next⟩, ?_, ⟨⟨h1.sl, ?_, ?_, h1.old⟩, .inr ⟨id, g, off, n, lim, cap, rfl, hcp, hlt, _, g, g, get_set_same _ _ _, Nat.le_refl _, rfl⟩⟩, fun j hj => get_set_ne _ _ hj, rfl⟩
    · rw [wr_at, hg, wrO_row, if_pos ⟨rfl, by omega, rfl⟩, hsp]
    · obtain ⟨m, rfl⟩ : ∃ m, n = m + 1 := ⟨n - 1, by omega⟩
      simp only [rdS, rd_at, get_set_same, rdO_row]
      rw [if_pos ⟨Nat.le_refl _, Nat.le_refl _, k3⟩]
      congr 1
      rw [← k4]
      apply List.ext_getElem?
      intro j
      rw [List.getElem?_take, List.getElem?_drop, get_mid, get_mid]
      simp only [List.length_take, List.length_drop, List.getElem?_take, List.getElem?_drop]
      have q1 : min (off + c) cells.length = off + c := by omega
      have q2 : min c (min ((m + 1) * sz) (cells.length - off)) = c := by omega
      rw [q1, q2]
      by_cases hj : j < (m + 1) * sz
      · rw [if_pos hj]
        by_cases hjc : j < c
        · rw [if_pos (by omega), if_pos (by omega), if_pos hjc, if_pos hjc, if_pos hj]
        · by_cases hjn : j < c + new.length
          · rw [if_neg (by omega), if_pos (by omega), if_neg hjc, if_pos hjn]
            congr 1; omega
          · rw [if_neg (by omega), if_neg (by omega), if_neg hjc, if_neg hjn, if_pos (by omega)]
            congr 1; omega
      · rw [if_neg hj, if_neg (by omega), if_neg (by omega), if_neg (by omega)]
    · simp only [List.length_append, List.length_take, List.length_drop, sLen]; omega
/-- A whole element is written. -/
theorem gw_pute {S : AS} {v : AV} {sz e i : Nat} {α : Type} {enc : α → List AV} {L : List α} (h : Gw S v sz e (L.flatMap enc)) (hz : ∀ x, (enc x).length = sz) (hp : 0 < sz) (hi : i < L.length) (y : α) :
    ∃ T, wrV S (pAt v i) (enc y) = some T ∧ Gw T v sz e ((L.set i y).flatMap enc) ∧ (∀ j, j + 1 ≠ bnd v → T.h.get j = S.h.get j) ∧ T.next = S.next := by
  have hl := h.1.len_flat hz hp
  rcases h.2 with rfl | ⟨id, g, off, n, lim, cap, rfl, _⟩
  · simp [sLen] at hl; omega
  · simp only [sLen] at hl
    have hle : i * sz + sz ≤ n * sz := by rw [← Nat.succ_mul]; exact Nat.mul_le_mul_right _ (by omega)
    obtain ⟨T, h1, h2, h3, h4⟩ := gw_putw (c := i * sz) (new := enc y) h (by omega) hp (by rw [hz]; exact hle)
    rw [hz, ← fm_set hz hi] at h2
    exact ⟨T, h1, h2, fun j hj => h3 j (fun e => hj (by simp [bnd, e])), h4⟩
theorem gw_cut0 {S : AS} {v : AV} {sz e k : Nat} {cs : List AV} (h : Gw S v sz e cs) (hc : capNo v = true) (hk : k ≤ sLen v) : Gw S (subA v 0 k) sz e (cs.take (k * sz)) ∧ capNo (subA v 0 k) = true ∧ bnd (subA v 0 k) = bnd v := by
  have hs := Sl.cut h.1 (Nat.zero_le k) hk
  rw [Nat.zero_mul, List.drop_zero, Nat.sub_zero] at hs
  rcases h.2 with rfl | ⟨id, g, off, n, lim, cap, rfl, hcp, hlt, hr⟩
  · exact ⟨⟨hs, .inl rfl⟩, rfl, rfl⟩
  · cases cap with
    | some c => cases hc
    | none => exact ⟨⟨hs, .inr ⟨id, g, off + 0 * sz, k - 0, lim, none, rfl, rfl, hlt, hr⟩⟩, rfl, rfl⟩
theorem gw_clear {cx : Am.Cx} {S : AS} {t : TypeId} {ts : List TypeId} {p : Nat × Nat × Nat} {v : AV} {i : Nat} {cs : List AV} (ht : slT cx t = some p) (h : Gw S v p.2.1 p.1 cs) (hc : capNo v = true) (hi : i ≤ sLen v) :
    ∃ T M, builtinV cx S .clear (t :: ts) [subA v i (sLen v)] = .val .undef T ∧ Gw T v p.2.1 p.1 M ∧ M.take (i * p.2.1) = cs.take (i * p.2.1) ∧ (∀ j, j + 1 ≠ bnd v → T.h.get j = S.h.get j) ∧ T.next = S.next := by
  obtain ⟨hu, hs, hb, hzo, hp⟩ := slT_und ht
  obtain ⟨e, sz, bs⟩ := p
  simp only at hu hs hb hzo hp h ⊢
  rcases id h.2 with rfl | ⟨id, g, off, n, lim, cap, rfl, hcp, hlt, hr⟩
  · refine ⟨S, cs, ?_, h, rfl, fun _ _ => rfl, rfl⟩
    show vals? (clearV cx S t .nils) 17 = _
    unfold clearV
    rw [hu]; rfl
  · cases cap with
    | some c => cases hc
    | none =>
      simp only [sLen] at hi
      show ∃ T M, vals? (clearV cx S t (.slice id g (off + i * sz) (n - i) lim sz none)) 17 = _ ∧ _
      unfold zeroOk at hzo
      split at hzo
      · rename_i zv hzv
        split at hzo
        · rename_i zc hzc
          simp only [nbeq, lenL_eq, decide_eq_true_eq] at hzo
          unfold clearV
          rw [hu]
          by_cases h0 : n - i = 0
          · rw [h0]
            exact ⟨S, cs, rfl, h, rfl, fun _ _ => rfl, rfl⟩
          · obtain ⟨m, hm⟩ : ∃ m, n - i = m + 1 := ⟨n - i - 1, by omega⟩
            have hle : i * sz + (m + 1) * sz = n * sz := by rw [← hm, ← Nat.add_mul]; congr 1; omega
            obtain ⟨T, h1, h2, h3, h4⟩ := gw_putw (c := i * sz) (new := repL (m + 1) zc) h (by omega) hp (by rw [repL_length, hzo]; omega)
            rw [hm]
            simp only [hs, hzv, hzc, nbeq, lenL_eq, hzo, decide_true, Bool.and_self, cond_true, h1]
            refine ⟨T, _, rfl, h2, ?_, fun j hj => h3 j (fun e => hj (by simp [bnd, e])), h4⟩
            have hlen := h.1.len
            simp only [sLen] at hlen
            have hle2 : i * sz ≤ cs.length := by omega
            rw [List.append_assoc, List.take_append_of_le_length (by rw [List.length_take]; omega), List.take_take, Nat.min_self]
        · cases hzo
      · cases hzo
end Go.Proofs.YtedonhemfhfbaaaGreat.mod

namespace Go.Proofs.YtedonhemfhfbaaaGreat.mod
open Go Go.Am
set_option linter.unusedVariables false
set_option linter.unusedSimpArgs false

theorem eqc157 (c : Bool) (a b : Int × Nat) : binV C0 .eql 157 c (.agg (encT a)) (.agg (encT b)) = some (.bool (decide (a = b))) := by
  obtain ⟨a1, a2⟩ := a
  obtain ⟨b1, b2⟩ := b
  have e : ∀ x y z w : Int, eqV C0 157 c (.agg [.int .i64 x, .int .u64 y]) (.agg [.int .i64 z, .int .u64 w]) = andS (some (eqI x z)) (andS (some (eqI y w)) (some true)) := fun x y z w => by kernel_rfl
  have h : eqV C0 157 c (.agg (encT (a1, a2))) (.agg (encT (b1, b2))) = some (decide (((a1, a2) : Int × Nat) = (b1, b2))) := by
    simp only [encT]
    rw [e, eqI_eq, eqI_eq]
    simp only [Prod.mk.injEq]
    unfold andS
    have h3 : ((a2 : Int) = b2) ↔ a2 = b2 := by omega
    by_cases h1 : a1 = b1 <;> by_cases h2 : a2 = b2 <;> simp [h1, h2, h3]
  simp only [encT] at h ⊢
  unfold binV
  simp [h, oddA]
theorem nt135 : Tryz.f135.ntmps = 19 := by kernel_rfl
def idyH (S : AS) (u : AV) (b : Nat) (l : List (Int × Nat)) (y : Int × Nat) (k : Nat) (F' : Fr) (S' : AS) : Prop :=
  ∃ i : Nat, S' = S ∧ sl F' 0 = u ∧ sl F' 3 = .ptr b 0 0 2 ∧ sl F' 7 = .int .i64 l.length ∧ sl F' 8 = .int .i64 i ∧ i ≤ l.length ∧ k = l.length - i ∧ ∀ x, x ∈ l.take i → decide (y = x) = false
theorem idyH_mk {S : AS} {u : AV} {b : Nat} {l : List (Int × Nat)} {y : Int × Nat} {k : Nat} {F' : Fr} (i : Nat) (h2 : sl F' 0 = u) (h3 : sl F' 3 = .ptr b 0 0 2) (h4 : sl F' 7 = .int .i64 l.length) (h5 : sl F' 8 = .int .i64 i) (h6 : i ≤ l.length) (h7 : k = l.length - i) (h8 : ∀ x, x ∈ l.take i → decide (y = x) = false) : idyH S u b l y k F' S :=
  ⟨i, rfl, h2, h3, h4, h5, h6, h7, h8⟩
set_option maxRecDepth 20000 in
theorem index135 {S : AS} {u : AV} {l : List (Int × Nat)} {y : Int × Nat} (h : Sl S u 2 (l.flatMap encT)) (hb : l.length ≤ 9223372036854775807) :
    CallW C0 135 [u, .agg (encT y)] S fun v T => v = .int .i64 (idxI (fun x => decide (y = x)) l) ∧ Sub S T := by
  refine enterW (pu0 _) (pr0 _ rfl) fn135 rfl ok135 (by simp) fun F hn hs => ?_
  rw [nt135] at hn
  have s0 := hs 0
  have s1 := hs 1
  clear hs
  simp only [List.getElem?_cons_zero, List.getElem?_cons_succ, Option.getD_some, encT] at s0 s1
  have h1 : Sub S ⟨S.h.set S.next (.row (encT y) 0 0 false 157), S.next + 1⟩ := sub1
  have hT := h.toSub h1
  have u1 := h.sl
  have u2 := h.len_flat encT_len (by omega)
  simp [s0, s1, u1, u2]
  refine loopP_of (idyH ⟨S.h.set S.next (.row (encT y) 0 0 false 157), S.next + 1⟩ u S.next l y) l.length (idyH_mk 0 (by simp [s0]) (by simp) (by simp) (by simp) (Nat.zero_le _) rfl (by simp)) ?_
  rintro k F' S' hn' ⟨i, rfl, t0, t3, t7, t8, hi, hk, ha⟩
  have hn2 : F'.n = 19 := by rw [hn']; simp [hn]
  clear hn' s0 s1 hn
  by_cases hi' : i < l.length
  · have hx : l[i]? = some l[i] := List.getElem?_eq_getElem hi'
    have hl := loadT_el (cx := C0) (e := 157) hT encT_len (by omega) hx ag157 sz157
    have by1 : baseL (encT y) = true := by simp [encT, baseL]
    have by3 : (encT y).take 2 = encT y := rfl
    have by2 : baseL (encT l[i]) = true := by simp [encT, baseL]
    simp [t7, t8, hi', hn2]
    refine still_ok (n := 19) (by kernel_rfl) (by simp [hn2]) ?_
    have heq := fun c => eqc157 c y l[i]
    have oku := h.ok
    cases hp : decide (y = l[i]) with
    | true =>
      simp only [hp] at heq
      simp [t0, t3, t7, t8, u1, u2, hi', hl, heq, oku, by1, by2, by3, idxI_at hx hp ha, h1]
    | false =>
      simp only [hp] at heq
      simp [t0, t3, t7, t8, u1, u2, hi', hl, heq, oku, by1, by2, by3]
      exact ⟨l.length - (i + 1), by omega, idyH_mk (i + 1) (by simp [t0]) (by simp [t3]) (by simp [t7]) (by simp [wrap_succ (show i < 9223372036854775807 by omega)]) hi' rfl (take_step hx hp ha)⟩
  · have hall : ∀ x, x ∈ l → decide (y = x) = false := fun x hx => ha x (by rw [List.take_of_length_le (by omega)]; exact hx)
    simp [t7, t8, hi', idxI_none hall, h1]
theorem contains86 {S : AS} {u : AV} {l : List (Int × Nat)} {y : Int × Nat} (h : Sl S u 2 (l.flatMap encT)) (hb : l.length ≤ 9223372036854775807) :
    CallW C0 86 [u, .agg (encT y)] S fun v T => v = .bool (l.any fun x => decide (y = x)) ∧ Sub S T := by
  have h1 : Sub S ⟨S.h.set S.next (.row (encT y) 0 0 false 157), S.next + 1⟩ := sub1
  obtain ⟨v, T, ⟨rfl, hs'⟩, e⟩ := (index135 (y := y) (h.toSub h1) hb).ex
  refine enterW (pu0 _) (pr0 _ rfl) fn86 rfl ok86 (by simp) fun F hn hs => ?_
  have s0 := hs 0
  have s1 := hs 1
  clear hs
  simp only [List.getElem?_cons_zero, List.getElem?_cons_succ, Option.getD_some, encT] at s0 s1 e
  simp [s0, s1, e, ex0, h1.trans hs', idxI_any, encT]
theorem ack88 {S : AS} {b c : Nat} {pub : Int} {n : Nat} (hb : S.h.get b = some (.row [.int .i64 pub] 0 0 false 3)) (hc : S.h.get c = some (.row [.int .u64 n] 0 0 false 31)) (h1 : b < S.next) (h2 : c < S.next) (t : Int × Nat) :
    CallW C0 88 [.agg (encT t), .ptr b 0 0 1, .ptr c 0 0 1] S fun v T => v = .bool (decide (t.1 = pub) && decide (t.2 ≤ n)) ∧ Sub S T := by
  refine enterW (pu0 _) (pr0 _ rfl) fn88 rfl ok88 (by simp) fun F hn hs => ?_
  have s0 := hs 0
  have s1 := hs 1
  have s2 := hs 2
  clear hs
  obtain ⟨t1, t2⟩ := t
  simp only [List.getElem?_cons_zero, List.getElem?_cons_succ, Option.getD_some, encT] at s0 s1 s2
  have hs1 : Sub S ⟨S.h.set S.next (.row [.int .i64 t1, .int .u64 t2] 0 0 false 157), S.next + 1⟩ := sub1
  have c1 : ¬ b = S.next := by omega
  have c2 : ¬ c = S.next := by omega
  have e1 : (S.h.set S.next (.row [.int .i64 t1, .int .u64 t2] 0 0 false 157)).get b = some (.row [.int .i64 pub] 0 0 false 3) := by rw [get_set_ne _ _ (by omega)]; exact hb
  have e2 : (S.h.set S.next (.row [.int .i64 t1, .int .u64 t2] 0 0 false 157)).get c = some (.row [.int .u64 n] 0 0 false 31) := by rw [get_set_ne _ _ (by omega)]; exact hc
  by_cases h : t1 = pub
  · subst h
    simp [s0, s1, s2, c1, c2, hb, hc, hs1]
  · simp [s0, s1, s2, c1, c2, hb, hc, h, hs1]
end Go.Proofs.YtedonhemfhfbaaaGreat.mod

namespace Go.Proofs.YtedonhemfhfbaaaGreat.mod
open Go Go.Am
set_option linter.unusedVariables false
set_option linter.unusedSimpArgs false

def keepF {α : Type} (P : α → Bool) (l : List α) : List α := l.filter fun x => !P x
theorem keepF_all {α : Type} {P : α → Bool} {l : List α} (h : ∀ x, x ∈ l → P x = false) : keepF P l = l := by
  unfold keepF
  rw [List.filter_eq_self]
  intro x hx
  simp [h x hx]
theorem keepF_take {α : Type} {P : α → Bool} {l : List α} {j : Nat} (h : j < l.length) : keepF P (l.take (j + 1)) = keepF P (l.take j) ++ if P l[j] = true then [] else [l[j]] := by
  unfold keepF
  rw [List.take_succ_eq_append_getElem h, List.filter_append]
  congr 1
  cases h : P l[j] <;> simp [List.filter, h]
theorem keepF_len {α : Type} {P : α → Bool} {l : List α} : (keepF P l).length ≤ l.length := List.length_filter_le _ _
theorem idxI_cases {α : Type} (P : α → Bool) (l : List α) : (idxI P l = -1 ∧ keepF P l = l) ∨ ∃ i, idxI P l = ((i : Nat) : Int) ∧ i < l.length ∧ keepF P (l.take (i + 1)) = l.take i := by
  unfold idxI
  cases h : l.findIdx? P with
  | none => exact .inl ⟨rfl, keepF_all fun x hx => by simpa using List.findIdx?_eq_none_iff.1 h x hx⟩
  | some i =>
    obtain ⟨hi, hp, ha⟩ := List.findIdx?_eq_some_iff_getElem.1 h
    refine .inr ⟨i, rfl, hi, ?_⟩
    rw [keepF_take hi, if_pos hp, List.append_nil]
    refine keepF_all fun x hx => ?_
    obtain ⟨j, hj, rfl⟩ := List.mem_take_iff_getElem.1 hx
    have := ha j (by omega)
    simpa using this
theorem set_take {α : Type} {M : List α} {i : Nat} {x : α} (h : i < M.length) : (M.set i x).take (i + 1) = M.take i ++ [x] := by
  rw [List.set_eq_take_append_cons_drop, if_pos h]
  have : M.take i ++ x :: M.drop (i + 1) = (M.take i ++ [x]) ++ M.drop (i + 1) := by simp
  rw [this, List.take_left' (by simp; omega)]
/-- The head of a round. -/
def delH (S : AS) (u g : AV) (l : List (Int × Nat)) (P : Int × Nat → Bool) (k : Nat) (F' : Fr) (S' : AS) : Prop :=
  ∃ (i j : Nat) (M : List (Int × Nat)), Keep (fun id => bnd u = id + 1) S S' ∧ Gw S' u 2 157 (M.flatMap encT) ∧ M.length = l.length ∧ M.take i = keepF P (l.take j) ∧ M.drop j = l.drop j ∧ sl F' 0 = u ∧ sl F' 1 = g ∧ sl F' 5 = .int .i64 i ∧ sl F' 6 = .int .i64 j ∧ i < j ∧ j ≤ l.length ∧ k = l.length - j
theorem delH_mk {S : AS} {u g : AV} {l : List (Int × Nat)} {P : Int × Nat → Bool} {k : Nat} {F' : Fr} {S' : AS} (i j : Nat) (M : List (Int × Nat)) (h1 : Keep (fun id => bnd u = id + 1) S S') (h2 : Gw S' u 2 157 (M.flatMap encT)) (h3 : M.length = l.length) (h4 : M.take i = keepF P (l.take j)) (h5 : M.drop j = l.drop j)
    (h6 : sl F' 0 = u) (h7 : sl F' 1 = g) (h8 : sl F' 5 = .int .i64 i) (h9 : sl F' 6 = .int .i64 j) (h10 : i < j) (h11 : j ≤ l.length) (h12 : k = l.length - j) : delH S u g l P k F' S' :=
  ⟨i, j, M, h1, h2, h3, h4, h5, h6, h7, h8, h9, h10, h11, h12⟩
theorem nt87 : Tryz.f87.ntmps = 42 := by kernel_rfl
@[simp] theorem ne157 : zeroOf C0 157 = some (.agg [.int .i64 0, .int .u64 0]) := by kernel_rfl
set_option maxRecDepth 20000 in
theorem delete87 {S : AS} {u : AV} {l : List (Int × Nat)} {f : FuncId} {caps : List AV} {P : Int × Nat → Bool} (h : Gw S u 2 157 (l.flatMap encT)) (hcap : capNo u = true) (hb : l.length ≤ 1048576) (hf : (f == 228) = false)
    (hc : ∀ T, Keep (fun id => bnd u = id + 1) S T → ∀ x, x ∈ l → CallW C0 f (.agg (encT x) :: caps) T fun v T' => v = .bool (P x) ∧ Sub T T') :
    CallW C0 87 [u, .func (.func f) [] caps] S fun v T => Gw T v 2 157 ((keepF P l).flatMap encT) ∧ capNo v = true ∧ bnd v = bnd u ∧ Keep (fun id => bnd u = id + 1) S T := by
  obtain ⟨v, T, ⟨rfl, hT⟩, e⟩ := (idx136 (f := f) (caps := caps) (P := P) encT_len h.1 (by omega) hf (fun T hT x hx => hc T hT.keep x hx)).ex
  refine enterW (pu0 _) (pr0 _ rfl) fn87 rfl ok87 (by simp) fun F hn hs => ?_
  rw [nt87] at hn
  have s0 := hs 0
  have s1 := hs 1
  clear hs
  simp only [List.getElem?_cons_zero, List.getElem?_cons_succ, Option.getD_some] at s0 s1
  have u1 := h.1.sl
  have u2 := h.1.len_flat encT_len (by omega)
  have hgT : Gw T u 2 157 (l.flatMap encT) := h.agree (fun id e => hT.h id (by have := h.1.old; omega)) hT.next
  have okU := okW_of h.1.ok
  have npU := h.1.np
  rcases idxI_cases P l with ⟨e1, e2⟩ | ⟨i, e1, e2, e3⟩
  · rw [e1] at e
    simp [s0, s1, e, ex0, okU, npU]
    exact ⟨by rw [e2]; exact hgT, hcap, hT.keep⟩
  · rw [e1] at e
    have hne : ¬ ((i : Int) = -1) := by omega
    have hw := wrap_succ (i := i) (by omega)
    simp [s0, s1, e, ex0, hne, okU, hw]
    refine loopP_of (delH S u (.func (.func f) [] caps) l P) (l.length - (i + 1)) (delH_mk i (i + 1) l hT.keep hgT rfl e3.symm rfl (by simp [s0]) (by simp [s1]) (by simp) (by simp) (by omega) (by omega) rfl) ?_
    clear e e1 e2 e3 hne hw
    rintro k F' S' hn' ⟨i, j, M, hK, hg, hM, hti, hdr, t0, t1, t5, t6, hij, hj, hk⟩
    clear hn' s0 s1 hn
    have v1 := hg.1.sl
    by_cases hj' : j < l.length
    · have hMj : M[j]? = some l[j] := by
        have := congrArg (fun x => x[0]?) hdr
        simp only [List.getElem?_drop, Nat.add_zero] at this
        rw [this]; exact List.getElem?_eq_getElem hj'
      have hl := loadT_el (cx := C0) (e := 157) hg.1 encT_len (by omega) hMj ag157 sz157
      have hold := hg.1.old
      have h1 : Sub S' ⟨(S'.h.set S'.next (.row [.int .i64 0, .int .u64 0] 0 0 false 157)).set S'.next (.row (encT l[j]) 0 0 false 157), S'.next + 1⟩ := ⟨fun id hid => by
        show ((S'.h.set _ _).set _ _).get id = _
        rw [get_set_ne _ _ (by omega), get_set_ne _ _ (by omega)], Nat.le_succ _⟩
      obtain ⟨v, T', ⟨rfl, hT'⟩, e⟩ := (hc ⟨(S'.h.set S'.next (.row [.int .i64 0, .int .u64 0] 0 0 false 157)).set S'.next (.row (encT l[j]) 0 0 false 157), S'.next + 1⟩ (hK.trans h1.keep) l[j] (List.getElem_mem hj')).ex
      have hcell : T'.h.get S'.next = some (.row (encT l[j]) 0 0 false 157) := by rw [hT'.h _ (Nat.lt_succ_self _)]; exact get_set_same _ _ _
      have hg' : Gw T' u 2 157 (M.flatMap encT) := hg.agree (fun id e => (h1.trans hT').h id (by omega)) (h1.trans hT').next
      have hK' := hK.trans ((h1.trans hT').keep (A := fun id => bnd u = id + 1))
      have hw6 := wrap_succ (i := j) (by omega)
      have hw5 := wrap_succ (i := i) (by omega)
      have hdr' : M.drop (j + 1) = l.drop (j + 1) := by
        have := congrArg (List.drop 1) hdr
        simpa [List.drop_drop] using this
      simp only [encT] at hl e hcell
      cases hp : P l[j] with
      | true =>
        rw [hp] at e
        simp [t0, t1, t5, t6, u1, u2, hj', hl, e, ex0 f hf, hcell]
        exact ⟨l.length - (j + 1), by omega, delH_mk i (j + 1) M hK' hg' hM (by rw [keepF_take hj', if_pos hp, List.append_nil]; exact hti) hdr' (by simp [t0]) (by simp [t1]) (by simp [t5]) (by simp [hw6]) (by omega) hj' rfl⟩
      | false =>
        rw [hp] at e
        obtain ⟨W, ew, hgw, hsw, hnw⟩ := gw_pute hg' encT_len (by omega) (i := i) (by omega) l[j]
        simp only [encT] at ew
        have hil : i < l.length := by omega
        simp [t0, t1, t5, t6, u1, u2, hj', hil, hl, e, ex0 f hf, hcell, ew]
        exact ⟨l.length - (j + 1), by omega, delH_mk (i + 1) (j + 1) (M.set i l[j]) (hK'.trans ⟨fun id _ ha => hsw id (fun e => ha e.symm), by omega⟩) hgw (by rw [List.length_set]; exact hM) (by rw [set_take (by omega), hti, keepF_take hj', hp]; rfl) (by rw [List.drop_set_of_lt (by omega)]; exact hdr') (by simp [t0]) (by simp [t1]) (by simp [hw5]) (by simp [hw6]) (by omega) hj' rfl⟩
    · have hje : j = l.length := by omega
      subst hje
      rw [List.take_length] at hti
      have hlen := congrArg List.length hti
      rw [List.length_take, Nat.min_eq_left (by omega)] at hlen
      obtain ⟨T', N, e, r1, r2, r3, r4⟩ := gw_clear (cx := C0) (ts := []) (i := i) st134 hg hcap (by omega)
      rw [u2] at e
      have hil : i ≤ l.length := by omega
      obtain ⟨c1, c2, c3⟩ := gw_cut0 (k := i) r1 hcap (by omega)
      rw [r2, fm_take encT_len, hti] at c1
      simp [t0, t1, t5, t6, u1, u2, e, hil, okW_of c1.1.ok, c1.1.np]
      exact ⟨c1, c2, c3, hK.trans ⟨fun id _ ha => r3 id (fun e => ha e.symm), by omega⟩⟩
end Go.Proofs.YtedonhemfhfbaaaGreat.mod

namespace Go.Proofs.YtedonhemfhfbaaaGreat.mod
open Go Go.Am
set_option linter.unusedVariables false
set_option linter.unusedSimpArgs false

def ackP (pub : Int) (n : Nat) (t : Int × Nat) : Bool := decide (t.1 = pub) && decide (t.2 ≤ n)
def ackS (x : SubS) (pub : Int) (n : Nat) : SubS := { x with cur := nput x.cur pub n, told := keepF (ackP pub n) x.told }
def ackE (o : Option SubX) (pub : Int) (n : Nat) : Int := match o with | none => 6 | some X => if (X.x.told.any fun x => decide ((pub, n) = x)) = true then 0 else 35
theorem bld157' (a b : Int) : buildA C0 157 [(0, .int .i64 a), (1, .int .u64 b)] = some (.agg [.int .i64 a, .int .u64 b]) := bld157 a b
/-- The memory behind an acknowledgement. -/
theorem ack_sub {S : AS} {X : SubX} (hX : SubM S X) (pub : Int) {n c d : Nat} (hn : 1 ≤ n ∧ n ≤ 1048576) (hc : S.h.get c = some (.row [.int .i64 pub] 0 0 false 3)) (hd : S.h.get d = some (.row [.int .u64 n] 0 0 false 31)) (hcl : c < S.next) (hdl : d < S.next) (hco : ¬ X.own c) (hdo : ¬ X.own d) :
    ∃ U tv V W, updateV C0 S 133 X.cm (.int .i64 pub) (.int .u64 n) = some (.undef, U) ∧ U.h.get X.s = S.h.get X.s ∧
      (∀ Q, CallW C0 87 [X.tv, .func (.func 88) [] [.ptr c 0 0 1, .ptr d 0 0 1]] U Q = Q tv V) ∧
      V.h.get X.s = some (.row [X.p, .nils, X.cm, X.nm, X.tv] 0 0 false 136) ∧ cellsOf tv = some [tv] ∧ isPanB tv = false ∧ okW tv = true ∧
      W = ⟨V.h.set X.s (.row [X.p, .nils, X.cm, X.nm, tv] 0 0 false 136), V.next⟩ ∧ SubM W { X with tv := tv, x := ackS X.x pub n } ∧ Keep X.own S W ∧ ∀ id, SubX.foot { X with tv := tv, x := ackS X.x pub n } id → X.foot id := by
  obtain ⟨U, e1, hm, hU, hUn⟩ := update_mp (cx := C0) (t := 133) (k := pub) (v := .int .u64 (n : Int)) mk133 (keyInt .i64 .i64) hX.cur
  rw [mput_encM] at hm
  have a1 := hX.a1
  have a2 := hX.a2
  have a3 := hX.a3
  have a4 := hX.a4
  have a5 := hX.a5
  have a6 := hX.a6
  have b1 := hX.lt
  have b2 := Mp.lt hX.cur
  have b3 := Mp.lt hX.next
  have b4 := hX.told.1.old
  have htU : Gw U X.tv 2 157 (X.x.told.flatMap encT) := hX.told.agree (fun id e => hU id (by omega)) (by omega)
  have c1 : ¬ bnd X.cm = c + 1 := fun e => hco (.inr (.inl e.symm))
  have c2 : ¬ bnd X.cm = d + 1 := fun e => hdo (.inr (.inl e.symm))
  have c3 : ¬ bnd X.tv = c + 1 := fun e => hco (.inr (.inr (.inr e.symm)))
  have c4 : ¬ bnd X.tv = d + 1 := fun e => hdo (.inr (.inr (.inr e.symm)))
  obtain ⟨tv, V, ⟨r1, r2, r3, r4⟩, e2⟩ := (delete87 (f := 88) (caps := [.ptr c 0 0 1, .ptr d 0 0 1]) (P := ackP pub n) htU hX.tc (by have := hX.tl; omega) rfl (fun T hT t ht => ack88 (by rw [hT.h c (by omega) c3, hU c c1]; exact hc) (by rw [hT.h d (by omega) c4, hU d c2]; exact hd) (by have := hT.next; omega) (by have := hT.next; omega) t)).ex
  have hVS : ∀ id, id < S.next → id + 1 ≠ bnd X.tv → id + 1 ≠ bnd X.cm → V.h.get id = S.h.get id := fun id i1 i2 i3 => by
    rw [r4.h id (by omega) (fun e => i2 e.symm)]
    exact hU id (fun e => i3 e.symm)
  have hVn : S.next ≤ V.next := by rw [← hUn]; exact r4.next
  have hVs : V.h.get X.s = some (.row [X.p, .nils, X.cm, X.nm, X.tv] 0 0 false 136) := by rw [hVS _ hX.lt hX.a3 hX.a1]; exact hX.at_
  have hWg : ∀ id, id ≠ X.s → (V.h.set X.s (.row [X.p, .nils, X.cm, X.nm, tv] 0 0 false 136)).get id = V.h.get id := fun id hne => get_set_ne _ _ hne
  refine ⟨U, tv, V, _, e1, hU _ (by omega), e2, hVs, r1.1.cells, r1.1.np, okW_of r1.1.ok, rfl, ⟨by show X.s < V.next; omega, get_set_same _ _ _, ?_, hX.bare, ?_, ?_, ?_, a1, a2, ?_, a4, ?_, ?_, ?_, ?_, ?_, hX.n3, ?_, r2⟩, ⟨?_, by show S.next ≤ V.next; omega⟩, ?_⟩
  · refine hX.pred.agree (fun id hf => ?_) hVn
    have hp := hX.pf id hf
    have hlt := hX.pred.foot hf
    show (V.h.set _ _).get id = _
    rw [hWg id (fun e => hp (.inl (by omega)))]
    exact hVS id hlt (fun e => hp (.inr (.inr (.inr e)))) (fun e => hp (.inr (.inl e)))
  · refine Mp.agree hm (fun id e => ?_) (by show U.next ≤ V.next; omega)
    have e : bnd X.cm = id + 1 := e
    show (V.h.set _ _).get id = _
    rw [hWg id (by omega), r4.h id (by omega) (by omega)]
  · refine Mp.agree hX.next (fun id e => ?_) hVn
    have e : bnd X.nm = id + 1 := e
    show (V.h.set _ _).get id = _
    rw [hWg id (by omega)]
    exact hVS id (by omega) (by omega) (by omega)
  · refine r1.agree (fun id e => ?_) (Nat.le_refl _)
    have e : bnd tv = id + 1 := e
    exact hWg id (by omega)
  · simp only; omega
  · simp only; omega
  · simp only; omega
  · intro id hf
    have hp := hX.pf id hf
    rintro (h | h | h | h)
    · exact hp (.inl h)
    · exact hp (.inr (.inl h))
    · exact hp (.inr (.inr (.inl h)))
    · simp only at h
      exact hp (.inr (.inr (.inr (by rw [← r3]; exact h))))
  · intro t ht
    exact hX.n1 t ((List.mem_filter.1 ht).1)
  · intro t ht
    simp only [ackS] at ht
    rcases nput_mem ht with rfl | ht
    · exact hn
    · exact hX.n2 t ht
  · have := keepF_len (P := ackP pub n) (l := X.x.told)
    have := hX.tl
    simp only [ackS]; omega
  · intro id hi ho
    show (V.h.set _ _).get id = _
    rw [hWg id (fun e => ho (.inl (by omega)))]
    exact hVS id hi (fun e => ho (.inr (.inr (.inr e)))) (fun e => ho (.inr (.inl e)))
  · rintro id ((h | h | h | h) | h)
    · exact .inl (.inl h)
    · exact .inl (.inr (.inl h))
    · exact .inl (.inr (.inr (.inl h)))
    · simp only at h
      exact .inl (.inr (.inr (.inr (by rw [← r3]; exact h))))
    · exact .inr h
theorem nt18 : Tryz.f18.ntmps = 41 := by kernel_rfl
section
variable {S : AS} {b : Nat} {st : Nat → Option SubX}
set_option maxRecDepth 20000 in
theorem ack18 (hb : BookAt S b st) (id pub : Int) (n : Nat) :
    CallW C0 18 [.ptr b 0 0 17, .int .i64 id, .int .i64 pub, .int .u64 n] S fun r T => r = .int .i64 (ackE (stAt st id) pub n) ∧ ∃ st', Step S T b st st' ∧
      abst st' = if ackE (stAt st id) pub n = 0 then updS (abst st) id.toNat ((stAt st id).map fun X => ackS X.x pub n) else abst st := by
  have h1 : Sub S ⟨(S.h.set S.next (.row [.int .i64 pub] 0 0 false 3)).set (S.next + 1) (.row [.int .u64 n] 0 0 false 31), S.next + 2⟩ := sub2
  have hb1 := hb.toSub h1
  refine enterW (pu0 _) (pr0 _ rfl) fn18 rfl ok18 (by simp) fun F hn hs => ?_
  rw [nt18] at hn
  have s0 := hs 0
  have s1 := hs 1
  have s2 := hs 2
  have s3 := hs 3
  clear hs
  simp only [List.getElem?_cons_zero, List.getElem?_cons_succ, Option.getD_some] at s0 s1 s2 s3
  have e0 := fun Q => bsub hb1 id (Q := Q)
  cases hst : stAt st id with
  | none =>
    rw [hst] at e0
    simp only [pX] at e0
    simp [s0, s1, s2, s3, e0, ex0, ackE]
    exact ⟨st, .same hb h1, rfl⟩
  | some X =>
    rw [hst] at e0
    simp only [pX] at e0
    have hX := hb1.at_st hst
    obtain ⟨n', rfl, hn8, hXn⟩ := stAt_some hst
    have hlt := (hb.at_st hst).lt
    have c1 : ¬ X.s = S.next := by omega
    have c2 : ¬ X.s = S.next + 1 := by omega
    have hat2 := (hb.at_st hst).at_
    have okt := okW_of hX.told.1.ok
    obtain ⟨r, T, ⟨rfl, hT⟩, e1⟩ := (contains86 (y := (pub, n)) hX.told.1 (by have := hX.tl; omega)).ex
    simp only [encT] at e1
    simp [s0, s1, s2, s3, e0, ex0, hn]
    refine draws [.p, .p, .p, .r 0 0, .r 0 0, .r 0 0, .p, .e [], .p, .p] (n := 41) (by kernel_rfl) (by simp [hn]) ?_
    cases hany : X.x.told.any fun x => decide ((pub, n) = x) with
    | false =>
      rw [hany] at e1
      simp [s0, s1, s2, s3, e1, ex0, hat2, c1, c2, okt, bld157, hX.told.1.cells]
      exact ⟨by simp [ackE, hany], st, .same hb (h1.trans hT), by simp [ackE, hany]⟩
    | true =>
      rw [hany] at e1
      have hmem : (pub, n) ∈ X.x.told := by
        obtain ⟨x, hx, e⟩ := List.any_eq_true.1 hany
        rw [of_decide_eq_true e]; exact hx
      have hXT := hX.sub hT
      have hbT := hb1.toSub hT
      have hfoot : ∀ id, X.foot id → id < S.next := fun id hf => (hb.at_st hst).foot hf
      have g1 : T.h.get S.next = some (.row [.int .i64 pub] 0 0 false 3) := by
        rw [hT.h _ (by show S.next < S.next + 2; omega)]
        show ((S.h.set _ _).set _ _).get _ = _
        rw [get_set_ne _ _ (by omega)]; exact get_set_same _ _ _
      have g2 : T.h.get (S.next + 1) = some (.row [.int .u64 n] 0 0 false 31) := by
        rw [hT.h _ (by show S.next + 1 < S.next + 2; omega)]
        exact get_set_same _ _ _
      have hTn : S.next + 2 ≤ T.next := hT.next
      obtain ⟨U, tv, V, W, e2, k1, e3, k2, k3, k4, k5, hW, k6, k7, k8⟩ := ack_sub hXT pub (n := n) (hX.n1 _ hmem) g1 g2 (by omega) (by omega) (fun ho => by have := hfoot _ (.inl ho); omega) (fun ho => by have := hfoot _ (.inl ho); omega)
      have hstep := hbT.turn (X' := { X with tv := tv, x := ackS X.x pub n }) hXn rfl k6 k7 (fun id hf => .inl (k8 id hf))
      have fin : ackE (some X) pub n = 0 := by simp [ackE, hany]
      have hcm : okW X.cm = true := by obtain ⟨i, _, _, h, _⟩ := hXT.cur; rw [h]; rfl
      have hatT := hXT.at_
      rw [hatT] at k1
      simp [s0, s1, s2, s3, e1, ex0, hat2, c1, c2, okt, bld157, hX.told.1.cells]
      refine draws [.p, .p, .p, .r 0 0, .r 0 0, .r 0 0, .e []] (n := 41) (by kernel_rfl) (by simp [hn]) ?_
      simp [s0, s1, s2, s3, e2, e3, g1, g2, ex0, hatT, k1, k2, k3, k4, k5, hcm, okt, fin]
      rw [← hW]
      exact ⟨_, hstep.after (h1.trans hT), abst_upd⟩
end
end Go.Proofs.YtedonhemfhfbaaaGreat.mod

namespace Go.Proofs.YtedonhemfhfbaaaGreat.mod
open Go Go.Am
set_option linter.unusedVariables false
set_option linter.unusedSimpArgs false

theorem bld126 : buildA C0 126 [(0, .bool true)] = some (.agg [.bool true, .nilp, .nilp, .nilp, .nilp, .nilp, .nilp, .nilp, .nilp, .nilp, .nilp, .nilp, .nilp, .nilp, .nilp, .nilp, .nilp]) := by kernel_rfl
theorem newBook10 {S : AS} : CallW C0 10 [] S fun r T => r = .ptr S.next 0 0 17 ∧ BookAt T S.next (fun _ => none) ∧ Sub S T := by
  refine enterW (pu0 _) (pr0 _ rfl) fn10 rfl ok10 (by simp) fun F hn hs => ?_
  simp [bld126]
  exact ⟨⟨Nat.lt_succ_self _, get_set_same _ _ _, fun i X e => (by cases e), fun i X e => (by cases e), fun i j X Y _ e => (by cases e)⟩, sub1⟩
theorem bld142 {S : AS} {u : AV} {cs : List AV} (h : Sl S u 5 cs) (k : List Nat) (t : Int) : buildA C0 142 [(0, .int .u64 t), (1, .agg [.str k, u]), (2, .int .i64 0)] = some (.agg [.int .u64 t, .str k, u, .int .i64 0]) := by
  rcases h.cases with rfl | ⟨_, _, _, _, _, _, rfl⟩ <;> kernel_rfl
theorem nt29 : Tryz.f29.ntmps = 32 := by kernel_rfl
theorem okW_sl {S : AS} {v : AV} {sz : Nat} {cs : List AV} (h : Sl S v sz cs) : okW v = true := okW_of h.ok
set_option maxRecDepth 20000 in
theorem publish29 {S : AS} {h : Nat} {v u : AV} {L : List Kept} {dur t : Nat} {key : List Nat} {atts : List Att} (hh : HistAt S h v L dur) (hu : AttsAt S u atts) (hl : L.length < 1048576) :
    CallW C0 29 [.ptr h 0 0 3, .int .u64 t, .agg [.str key, u]] S fun r T => r = .int .u64 ((L.length : Int) + 1) ∧ ∃ v' u', HistAt T h v' (L ++ [⟨t, key, u', atts, 0⟩]) dur ∧ Keep (fun id => id = h ∨ bnd v = id + 1) S T ∧
      ∀ id, histFoot h v' (L ++ [⟨t, key, u', atts, 0⟩]) id → histFoot h v L id ∨ S.next ≤ id := by
  have h1 : Sub S ⟨S.h.set S.next (.row [.str key, u] 0 0 false 40), S.next + 1⟩ := sub1
  have hh1 := hh.sub h1
  have hu1 := hu.sub h1
  obtain ⟨u', T, ⟨hT, k2, k1, k3, k4⟩, e1⟩ := (clone75 hu1.sl (by rw [hu1.sl.len_flat encA_len (by omega)]; have := hu.le; omega)).ex
  have hS := h1.trans hT
  have hhT := hh.sub hS
  have hTn : S.next + 1 ≤ T.next := hT.next
  have hk4 : bnd u' = 0 ∨ S.next + 1 < bnd u' := k4
  have kold := k2.old
  have gold := hh.gw.1.old
  have hxs : Sl (⟨T.h.set T.next (.row [.int .u64 t, .str key, u', .int .i64 0] 0 0 false 142), T.next + 1⟩ : AS) (.slice T.next 0 0 1 4 4 (some 1)) 4 [.int .u64 t, .str key, u', .int .i64 0] :=
    ⟨by simp [isSl, capB], by simp [rdS, rd_at], by simp [sLen], by simp [bnd]⟩
  have hgT : Gw (⟨T.h.set T.next (.row [.int .u64 t, .str key, u', .int .i64 0] 0 0 false 142), T.next + 1⟩ : AS) v 4 142 (L.flatMap encK) := hhT.gw.agree (fun id e => get_set_ne _ _ (by omega)) (Nat.le_succ _)
  have hlen := hh.len
  obtain ⟨v', V, e2, r1, r2, r3, r4, r5, r6, r7⟩ := append_gw (ts := []) (u := 138) (p := (142, 4, 56)) st138 un138 rfl hgT hxs (by rw [hlen]; simp [fits, nble, sLen_slice]; omega)
  simp only at r1
  have hs2 : (L.flatMap encK ++ [.int .u64 t, .str key, u', .int .i64 0]) = ((L ++ [(⟨t, key, u', atts, 0⟩ : Kept)]).flatMap encK) := by simp [encK]
  rw [hs2] at r1
  have hlt := hh.lt
  have hself := hh.self
  have hVS : ∀ id, id < T.next → id + 1 ≠ bnd v → V.h.get id = T.h.get id := fun id i1 i2 => by
    rw [r2 id (by show id < T.next + 1; omega) i2]
    exact get_set_ne _ _ (by omega)
  have hVn : T.next + 1 ≤ V.next := r3
  have hVh : V.h.get h = some (.row [.bool true, v, .int .i64 dur] 0 0 false 140) := by rw [hVS h (by omega) (fun e => hself e.symm)]; exact hhT.at_
  have hvb : bnd v' = bnd v ∨ T.next + 1 < bnd v' := r6
  have hWg : ∀ id, id ≠ h → (V.h.set h (.row [.bool true, v', .int .i64 dur] 0 0 false 140)).get id = V.h.get id := fun id hne => get_set_ne _ _ hne
  have hw : IntKind.u64.wrap (((L.length + 1 : Nat) : Int)) = (L.length : Int) + 1 := by rw [u64_nat (by omega)]; simp
  have u1 := hh.gw.1.sl
  have w1 := r1.1.sl
  have w2 : sLen v' = L.length + 1 := by rw [r4, hlen]; rfl
  have fin : ∀ W : AS, W = ⟨V.h.set h (.row [.bool true, v', .int .i64 dur] 0 0 false 140), V.next⟩ → HistAt W h v' (L ++ [⟨t, key, u', atts, 0⟩]) dur ∧ Keep (fun id => id = h ∨ bnd v = id + 1) S W ∧
      ∀ id, histFoot h v' (L ++ [⟨t, key, u', atts, 0⟩]) id → histFoot h v L id ∨ S.next ≤ id := by
    rintro W rfl
    refine ⟨⟨by show h < V.next; omega, get_set_same _ _ _, ?_, ?_, ?_, ?_, by rw [List.length_append]; have := hh.dur; omega, by rw [List.length_append]; show L.length + 1 ≤ _; omega⟩, ⟨?_, by show S.next ≤ V.next; omega⟩, ?_⟩
    · refine r1.agree (fun id e => ?_) (Nat.le_refl _)
      exact hWg id (by rcases hvb with h | h <;> omega)
    · intro k hk
      rcases List.mem_append.1 hk with hk | hk
      · have ha := (hhT.att k hk)
        have hp := hh.apart k hk
        have hko := (hh.att k hk).sl.old
        refine ⟨ha.sl.agree (fun id e => ?_) (by show T.next ≤ V.next; omega), ha.le⟩
        show (V.h.set _ _).get id = _
        rw [hWg id (by have := hp.1; omega)]
        exact hVS id (by omega) (by rcases hp.2 with h | h <;> omega)
      · simp at hk
        subst hk
        refine ⟨k2.agree (fun id e => ?_) (by show T.next ≤ V.next; omega), hu.le⟩
        show (V.h.set _ _).get id = _
        rw [hWg id (by omega)]
        exact hVS id (by omega) (by omega)
    · intro k hk
      rcases List.mem_append.1 hk with hk | hk
      · have hp := hh.apart k hk
        have hko := (hh.att k hk).sl.old
        refine ⟨hp.1, ?_⟩
        rcases hp.2 with h | h
        · exact .inl h
        · right; rcases hvb with h' | h' <;> omega
      · simp at hk
        subst hk
        simp only
        refine ⟨by omega, ?_⟩
        rcases hk4 with h | h
        · exact .inl h
        · right; rcases hvb with h' | h' <;> omega
    · rcases hvb with h | h <;> omega
    · intro id hi ha
      show (V.h.set _ _).get id = _
      rw [hWg id (fun e => ha (.inl e)), hVS id (by omega) (fun e => ha (.inr e.symm))]
      exact hS.h id hi
    · rintro id (e | e | ⟨k, hk, e⟩)
      · exact .inl (.inl e)
      · rcases hvb with h | h
        · exact .inl (.inr (.inl (by rw [← h]; exact e)))
        · right; omega
      · rcases List.mem_append.1 hk with hk | hk
        · exact .inl (.inr (.inr ⟨k, hk, e⟩))
        · simp at hk
          subst hk
          simp only at e
          right; omega
  refine enterW (pu0 _) (pr0 _ rfl) fn29 rfl ok29 (by simp) fun F hn hs => ?_
  rw [nt29] at hn
  have s0 := hs 0
  have s1 := hs 1
  have s2 := hs 2
  clear hs
  simp only [List.getElem?_cons_zero, List.getElem?_cons_succ, Option.getD_some] at s0 s1 s2
  have hat := hh.at_
  have c1 : ¬ h = S.next := by omega
  have c2 : ¬ h = T.next := by omega
  have hatT := hhT.at_
  have gT : T.h.get S.next = some (.row [.str key, u] 0 0 false 40) := by rw [hT.h _ (Nat.lt_succ_self _)]; exact get_set_same _ _ _
  simp [s0, s1, s2, none63 hh1, ex0, hn, hu.sl.cells]
  refine draws [.p, .p, .p, .p, .r 0 2, .p, .p, .r 0 1, .p, .r 0 0, .e [], .p, .p, .e [], .e [], .p, .p, .e []] (n := 32) (by kernel_rfl) (by simp [hn]) ?_
  simp [s0, s1, s2, hat, c1, c2, e1, ex0, hh1.at_, hatT, gT, okW_sl hh.gw.1, okW_sl hu.sl, k2.cells, k2.np, okW_sl k2, bld40 k2, bld142 k2, e2, r1.1.cells, r1.1.np, okW_sl r1.1, hVh, w1, w2, hw]
  exact ⟨by simpa using hw, v', u', fin _ rfl⟩
end Go.Proofs.YtedonhemfhfbaaaGreat.mod

namespace Go.Proofs.YtedonhemfhfbaaaGreat.mod
open Go Go.Am
set_option linter.unusedVariables false
set_option linter.unusedSimpArgs false

/-- An event, as it is given. -/
structure Ev where
  key : List Nat
  u : AV
  atts : List Att
def encE (e : Ev) : List AV := [.str e.key, e.u]
theorem encE_len (e : Ev) : (encE e).length = 2 := rfl
structure EvsAt (S : AS) (x : AV) (l : List Ev) : Prop where
  sl : Sl S x 2 (l.flatMap encE)
  att : ∀ e, e ∈ l → AttsAt S e.u e.atts
theorem EvsAt.sub {S T : AS} {x : AV} {l : List Ev} (h : EvsAt S x l) (hs : Sub S T) : EvsAt T x l := ⟨h.sl.toSub hs, fun e he => (h.att e he).sub hs⟩
/-- What Publish makes of events. -/
def HisOf (L : List Kept) (l : List Ev) : Prop := L.length = l.length ∧ ∀ (i : Nat) (k : Kept) (e : Ev), L[i]? = some k → l[i]? = some e → k.time = i ∧ k.key = e.key ∧ k.atts = e.atts ∧ k.state = 0
theorem HisOf.nil : HisOf [] [] := ⟨rfl, fun i k e h => by cases h⟩
theorem HisOf.snoc {L : List Kept} {l : List Ev} {i : Nat} {e : Ev} {u : AV} (h : HisOf L (l.take i)) (he : l[i]? = some e) : HisOf (L ++ [⟨i, e.key, u, e.atts, 0⟩]) (l.take (i + 1)) := by
  obtain ⟨hi, rfl⟩ := List.getElem?_eq_some_iff.1 he
  obtain ⟨h1, h2⟩ := h
  have hl : L.length = i := by rw [h1, List.length_take]; omega
  rw [List.take_succ_eq_append_getElem hi]
  refine ⟨by simp [h1]; omega, fun j k e hk he' => ?_⟩
  by_cases hj : j < i
  · rw [List.getElem?_append_left (by omega)] at hk
    rw [List.getElem?_append_left (by rw [List.length_take]; omega)] at he'
    exact h2 j k e hk he'
  · have hj' : j = i := by
      have := (List.getElem?_eq_some_iff.1 hk).1
      simp at this; omega
    subst hj'
    rw [List.getElem?_append_right (by omega), hl, Nat.sub_self] at hk
    rw [List.getElem?_append_right (by rw [List.length_take]; omega), List.length_take, Nat.min_eq_left (by omega), Nat.sub_self] at he'
    simp at hk he'
    subst hk he'
    exact ⟨rfl, rfl, rfl, rfl⟩
def hisH (S : AS) (x : AV) (l : List Ev) (k : Nat) (F' : Fr) (S' : AS) : Prop :=
  ∃ (i h : Nat) (v : AV) (L : List Kept), Sub S S' ∧ HistAt S' h v L i ∧ HisOf L (l.take i) ∧ (∀ id, histFoot h v L id → S.next ≤ id) ∧ sl F' 0 = x ∧ sl F' 3 = .ptr h 0 0 3 ∧ sl F' 4 = .int .i64 i ∧ i ≤ l.length ∧ k = l.length - i
theorem hisH_mk {S : AS} {x : AV} {l : List Ev} {k : Nat} {F' : Fr} {S' : AS} (i h : Nat) (v : AV) (L : List Kept) (h1 : Sub S S') (h2 : HistAt S' h v L i) (h3 : HisOf L (l.take i)) (h4 : ∀ id, histFoot h v L id → S.next ≤ id) (h5 : sl F' 0 = x) (h6 : sl F' 3 = .ptr h 0 0 3) (h7 : sl F' 4 = .int .i64 i) (h8 : i ≤ l.length) (h9 : k = l.length - i) : hisH S x l k F' S' :=
  ⟨i, h, v, L, h1, h2, h3, h4, h5, h6, h7, h8, h9⟩
set_option maxRecDepth 20000 in
theorem history8 {S : AS} {x : AV} {l : List Ev} (hx : EvsAt S x l) (hl : l.length ≤ 1048576) :
    CallW C0 8 [x] S fun r T => ∃ h v L, r = .ptr h 0 0 3 ∧ HistAt T h v L l.length ∧ HisOf L l ∧ Sub S T ∧ ∀ id, histFoot h v L id → S.next ≤ id := by
  obtain ⟨r, T, ⟨rfl, hh, hT⟩, e0⟩ := (newHist (S := S)).ex
  refine enterW (pu0 _) (pr0 _ rfl) fn8 rfl ok8 (by simp) fun F hn hs => ?_
  have s0 := hs 0
  clear hs
  simp only [List.getElem?_cons_zero, Option.getD_some] at s0
  have u1 := hx.sl.sl
  have u2 := hx.sl.len_flat encE_len (by omega)
  simp [s0, e0, ex0]
  refine loopP_of (hisH S x l) l.length (hisH_mk 0 S.next .nils [] hT hh (by simpa using HisOf.nil) (fun id hf => by
    rcases hf with rfl | e | ⟨k, hk, e⟩
    · exact Nat.le_refl _
    · simp [bnd] at e
    · cases hk) (by simp [s0]) (by simp) (by simp) (Nat.zero_le _) rfl) ?_
  rintro k F' S' hn' ⟨i, h, v, L, hsub, hH, hof, hft, t0, t3, t4, hi, hk⟩
  clear hn' s0 hn
  have hLl : L.length = i := by rw [hof.1, List.length_take]; omega
  by_cases hi' : i < l.length
  · have hxi : l[i]? = some l[i] := List.getElem?_eq_getElem hi'
    have hlo := loadT_el (cx := C0) (e := 40) (hx.sub hsub).sl encE_len (by omega) hxi ag40 sz40
    obtain ⟨r, T1, ⟨rfl, v', u', hH1, hK1, hf1⟩, e1⟩ := (publish29 (t := i) (key := l[i].key) hH ((hx.sub hsub).att l[i] (List.getElem_mem hi')) (by omega)).ex
    have hH1' := hH1.answer (by rw [List.length_append, hLl]; exact Nat.lt_succ_self _)
    obtain ⟨r, T2, ⟨rfl, rfl⟩, e2⟩ := (answer_yes hH1 (by rw [List.length_append, hLl]; exact Nat.lt_succ_self _)).ex
    have hw := u64_nat (n := i) (by omega)
    have hw2 := u64_succ (n := i) (by omega)
    have hw3 := wrap_succ (i := i) (by omega)
    have hsnoc := hof.snoc (u := u') hxi
    have hft' : ∀ id, histFoot h v' (L ++ [⟨i, l[i].key, u', l[i].atts, 0⟩]) id → S.next ≤ id := fun id hf => by
      rcases hf1 id hf with hf | hf
      · exact hft id hf
      · have := hsub.next; omega
    have hsub1 : Sub S T1 := ⟨fun id hid => (hK1.h id (by have := hsub.next; omega) (fun ha => by
      have : histFoot h v L id := by
        rcases ha with ha | ha
        · exact .inl ha
        · exact .inr (.inl ha)
      have := hft id this; omega)).trans (hsub.h id hid), Nat.le_trans hsub.next hK1.next⟩
    have hh2 := hft h (.inl rfl)
    have hsub2 : Sub S ⟨T1.h.set h (.row [.bool true, v', .int .i64 ((i : Int) + 1)] 0 0 false 140), T1.next⟩ := hsub1.set _ _ hh2 _ (Nat.le_refl _)
    simp only [encE] at hlo
    simp at e2 hw2
    simp [t0, t3, t4, u1, u2, hi', hlo, hw, hw2, hw3, e1, e2, ex0]
    exact ⟨l.length - (i + 1), by omega, hisH_mk (i + 1) h v' _ hsub2 hH1' hsnoc hft' (by simp [t0]) (by simp [t3]) (by simp) hi' rfl⟩
  · have hie : i = l.length := by omega
    subst hie
    rw [List.take_length] at hof
    simp [t0, t3, t4, u1, u2]
    exact ⟨v, L, hH, hof, hsub, hft⟩
end Go.Proofs.YtedonhemfhfbaaaGreat.mod

namespace Go.Proofs.YtedonhemfhfbaaaGreat.mod
open Go Go.Am
set_option linter.unusedVariables false
set_option linter.unusedSimpArgs false

theorem bld107 (s : List Nat) (n : Int) : buildA C0 107 [(0, .str s), (1, .agg [.int .i64 1, .int .i64 n, .str [], .bool false])] = some (.agg [.str s, .int .i64 1, .int .i64 n, .str [], .bool false]) := by kernel_rfl
theorem bld40b (id g o n l z : Nat) (c : Option Nat) : buildA C0 40 [(1, .slice id g o n l z c)] = some (.agg [.str [], .slice id g o n l z c]) := by kernel_rfl
theorem one20 {S : AS} (s : List Nat) (n : Int) : CallW C0 20 [.str s, .int .i64 n] S fun r T => ∃ u, r = .agg [.str [], u] ∧ AttsAt T u [⟨s, ⟨1, n, [], false⟩⟩] ∧ Sub S T := by
  have h1 : Sub S ⟨S.h.set S.next (.row [.str [], .nils] 0 0 false 40), S.next + 1⟩ := sub1
  obtain ⟨r, T, ⟨rfl, hT⟩, e⟩ := (number n ⟨S.h.set S.next (.row [.str [], .nils] 0 0 false 40), S.next + 1⟩).ex
  have hTn : S.next + 1 ≤ T.next := hT.next
  have g0 : T.h.get S.next = some (.row [.str [], .nils] 0 0 false 40) := by rw [hT.h _ (Nat.lt_succ_self _)]; exact get_set_same _ _ _
  refine enterW (pu0 _) (pr0 _ rfl) fn20 rfl ok20 (by simp) fun F hn hs => ?_
  have s0 := hs 0
  have s1 := hs 1
  clear hs
  simp only [List.getElem?_cons_zero, List.getElem?_cons_succ, Option.getD_some] at s0 s1
  have c1 : ¬ S.next = T.next := by omega
  simp [s0, s1, e, ex0, bld107, bld40b, g0, c1]
  have c2 : T.next ≠ S.next := by omega
  refine ⟨⟨⟨by simp [isSl, capB], ?_, by simp [sLen, encA, encV], by simp [bnd]⟩, by simp⟩, ?_⟩
  · simp [rdS, rd_at, get_set_ne _ _ c2, get_set_same, rdO_row, encA, encV]
  · exact (((h1.trans hT).set _ _ (by omega) _ (Nat.le_succ _)).set _ _ (Nat.le_refl _) _ (Nat.le_refl _))
section
variable {S : AS} {b h : Nat} {v : AV} {L : List Kept} {dur : Nat} {st : Nat → Option SubX}
theorem tell_item (hb : BookAt S b st) (hh : HistAt S h v L dur) (id pub : Int) (d : Dlv) (hd : AttsAt S d.u d.atts) (hD : ∀ i, bookFoot b st i → histFoot h v L i → False) (hg : d.gap = false) :
    CallW C0 17 [.ptr b 0 0 17, .int .i64 id, .int .i64 pub, .agg (encD d), .ptr h 0 0 3] S fun r T => ∃ st', Step S T b st st' ∧
      abst st' = if fitsV (stAt st id) L dur pub d = 0 then updS (abst st) id.toNat ((stAt st id).map fun X => tellS X.x pub (spanT d)) else abst st := by
  by_cases hf : fitsV (stAt st id) L dur pub d = 0
  · obtain ⟨r, T, ⟨X, tv, S1, h1, h2, h3, h4, h5, h6⟩, e⟩ := (tell_yes hb hh id pub d hd hD hf).ex
    rw [e, if_pos hf, h1]
    refine ⟨_, ⟨h5.book, (h2.mono fun id _ hc => by rw [hg] at hc; cases hc.1).trans h5.keep, fun id hi => (h5.foot id hi).imp (fun h => h) (fun h => Nat.le_trans h2.next h)⟩, abst_upd⟩
  · obtain ⟨r, T, h1, e⟩ := (tell_no hb hh id pub d hd hf).ex
    rw [e, if_neg hf]
    exact ⟨st, .same hb h1, rfl⟩
end
end Go.Proofs.YtedonhemfhfbaaaGreat.mod

namespace Go.Proofs.YtedonhemfhfbaaaGreat.mod
open Go Go.Am
set_option linter.unusedVariables false
set_option linter.unusedSimpArgs false

/-- A call, as it is given. -/
structure OpG where
  what : Int
  hh : Int
  id : Int
  pub : Int
  n : Nat
  key : List Nat
  eu : AV
  p : AV
  sv : AV
  a1 : Int
  a2 : Int
  a3 : Int
  d1 : Nat
  d2 : Nat
  dkey : List Nat
  du : AV
  d3 : Nat
  d4 : Nat
  ks : List Con
def encO (o : OpG) : List AV := [.int .i64 o.what, .int .i64 o.hh, .int .i64 o.id, .int .i64 o.pub, .int .u64 o.n, .str o.key, o.eu, o.p, o.sv, .int .i64 o.a1, .int .i64 o.a2, .int .i64 o.a3, .int .u64 o.d1, .int .u64 o.d2, .str o.dkey, o.du, .int .u64 o.d3, .int .u64 o.d4]
theorem encO_len (o : OpG) : (encO o).length = 18 := rfl
def what6 (o : OpG) : Int := o.what.tmod 6
def ackE' (x : Option SubS) (pub : Int) (n : Nat) : Int := match x with | none => 6 | some x => if (x.told.any fun y => decide ((pub, n) = y)) = true then 0 else 35
noncomputable def fitsV' (x : Option SubS) (L : List Kept) (dur : Nat) (pub : Int) (d : Dlv) : Int := match x with | none => 1 | some x => fitsN L dur x pub d
noncomputable def doesE (L : List Kept) (dur : Nat) (o : OpG) (pub : Int) (d : Dlv) (x : Option SubS) : Int :=
  if what6 o = 0 ∨ what6 o = 1 then (if mayP o.ks = false then 30 else if x.isSome then 9 else 0)
  else if what6 o = 2 then ackE' x pub o.n
  else if what6 o = 3 ∧ (o.n : Int).tmod 7 = 0 then (if x.isSome then 0 else 6)
  else fitsV' x L dur pub d
noncomputable def doesX (L : List Kept) (dur : Nat) (o : OpG) (pub : Int) (d : Dlv) (x : Option SubS) : Option SubS :=
  if what6 o = 0 ∨ what6 o = 1 then (if doesE L dur o pub d x = 0 then some (sub0 o.ks) else x)
  else if what6 o = 2 then (if doesE L dur o pub d x = 0 then x.map fun x => ackS x pub o.n else x)
  else if what6 o = 3 ∧ (o.n : Int).tmod 7 = 0 then none
  else if doesE L dur o pub d x = 0 then x.map fun x => tellS x pub (spanT d) else x
theorem ackE_eq (o : Option SubX) (pub : Int) (n : Nat) : ackE o pub n = ackE' (o.map (·.x)) pub n := by cases o <;> rfl
theorem fitsV_eq (o : Option SubX) (L : List Kept) (dur : Nat) (pub : Int) (d : Dlv) : fitsV o L dur pub d = fitsV' (o.map (·.x)) L dur pub d := by cases o <;> rfl
theorem updS_self {α : Type} (f : Nat → α) (n : Nat) : updS f n (f n) = f := by
  funext i
  unfold updS
  split
  · rename_i h; rw [h]
  · rfl
theorem updS_self' {α : Type} {f : Nat → α} {n : Nat} {x : α} (h : f n = x) : updS f n x = f := by rw [← h]; exact updS_self f n
/-- What a closure's boxes hold. -/
structure Boxes (S : AS) (o : OpG) (id pub : Int) (d : Dlv) (h : Nat) (B7 B8 B9 B13 B3 : Nat) : Prop where
  g7 : S.h.get B7 = some (.row (encO o) 0 0 false 60)
  g8 : S.h.get B8 = some (.row [.int .i64 id] 0 0 false 3)
  g9 : S.h.get B9 = some (.row [.int .i64 pub] 0 0 false 3)
  g13 : S.h.get B13 = some (.row (encD d) 0 0 false 48)
  g3 : S.h.get B3 = some (.row [.ptr h 0 0 3] 0 0 false 25)
  l7 : B7 < S.next
  l8 : B8 < S.next
  l9 : B9 < S.next
  l13 : B13 < S.next
  l3 : B3 < S.next
theorem Boxes.sub {S T : AS} {o : OpG} {id pub : Int} {d : Dlv} {h : Nat} {B7 B8 B9 B13 B3 : Nat} (b : Boxes S o id pub d h B7 B8 B9 B13 B3) (hs : Sub S T) : Boxes T o id pub d h B7 B8 B9 B13 B3 :=
  ⟨by rw [hs.h _ b.l7]; exact b.g7, by rw [hs.h _ b.l8]; exact b.g8, by rw [hs.h _ b.l9]; exact b.g9, by rw [hs.h _ b.l13]; exact b.g13, by rw [hs.h _ b.l3]; exact b.g3, Nat.lt_of_lt_of_le b.l7 hs.next, Nat.lt_of_lt_of_le b.l8 hs.next, Nat.lt_of_lt_of_le b.l9 hs.next, Nat.lt_of_lt_of_le b.l13 hs.next, Nat.lt_of_lt_of_le b.l3 hs.next⟩
section
variable {S : AS} {b h : Nat} {v : AV} {L : List Kept} {dur : Nat} {st : Nat → Option SubX} {o : OpG} {pub : Int} {d : Dlv} {B7 B8 B9 B13 B3 : Nat}
set_option maxRecDepth 20000 in
theorem does21 (hb : BookAt S b st) (hh : HistAt S h v L dur) {n : Nat} (hn8 : n < 8) (hp : PredAt S o.p o.ks) (hd : AttsAt S d.u d.atts) (hD : ∀ i, bookFoot b st i → histFoot h v L i → False) (hg : d.gap = false) (hB : Boxes S o n pub d h B7 B8 B9 B13 B3) :
    CallW C0 21 [.ptr b 0 0 17, .ptr B7 0 0 18, .ptr B8 0 0 1, .ptr B9 0 0 1, .ptr B13 0 0 6, .ptr B3 0 0 1] S fun r T => r = .int .i64 (doesE L dur o pub d (abst st n)) ∧ ∃ st', Step S T b st st' ∧ abst st' = updS (abst st) n (doesX L dur o pub d (abst st n)) := by
  have hst : stAt st (n : Int) = st n := stAt_nat st hn8
  have hab : (st n).map (·.x) = abst st n := rfl
  have hsome : (st n).isSome = (abst st n).isSome := by unfold abst; cases st n <;> rfl
  obtain ⟨g7, g8, g9, g13, g3, l7, l8, l9, l13, l3⟩ := id hB
  have hpok := okW_of hp.sl.ok
  refine enterW (pu0 _) (pr0 _ rfl) fn21 rfl ok21 (by simp) fun F hn hs => ?_
  have s0 := hs 0
  have s1 := hs 1
  have s2 := hs 2
  have s3 := hs 3
  have s4 := hs 4
  have s5 := hs 5
  clear hs
  simp only [List.getElem?_cons_zero, List.getElem?_cons_succ, Option.getD_some] at s0 s1 s2 s3 s4 s5
  simp only [encO] at g7
  have sub : ∀ T st', Step S T b st st' → (abst st' = if subE st n o.ks = 0 then updS (abst st) (n : Int).toNat (some (sub0 o.ks)) else abst st) → (what6 o = 0 ∨ what6 o = 1) →
      subE st n o.ks = doesE L dur o pub d (abst st n) ∧ ∃ st', Step S T b st st' ∧ abst st' = updS (abst st) n (doesX L dur o pub d (abst st n)) := fun T st' hS ha hw => by
    have hE : doesE L dur o pub d (abst st n) = subE st n o.ks := by
      unfold doesE subE
      rw [if_pos hw, if_neg (show ¬ (n : Int) < 0 by omega), if_neg (show ¬ 8 ≤ (n : Int) by omega), ← hsome]
      rfl
    refine ⟨hE.symm, st', hS, ?_⟩
    unfold doesX
    rw [if_pos hw, hE, ha]
    split
    · rfl
    · exact (updS_self _ _).symm
  by_cases h0 : o.what.tmod 6 = 0
  · obtain ⟨r, T, ⟨rfl, st', hS, ha⟩, e⟩ := (subscribe11 hb hp n).ex
    have := sub T st' hS ha (.inl h0)
    simp [s0, s1, s2, s3, s4, s5, g7, g8, h0, e, ex0, hpok]
    exact this
  by_cases h1 : o.what.tmod 6 = 1
  · obtain ⟨r, T, ⟨rfl, st', hS, ha⟩, e⟩ := (subscribe11 hb hp n).ex
    have := sub T st' hS ha (.inr h1)
    simp [s0, s1, s2, s3, s4, s5, g7, g8, h1, e, ex0, hpok]
    exact this
  have h01 : ¬ (what6 o = 0 ∨ what6 o = 1) := fun h => h.elim h0 h1
  by_cases h2 : o.what.tmod 6 = 2
  · obtain ⟨r, T, ⟨rfl, st', hS, ha⟩, e⟩ := (ack18 hb n pub o.n).ex
    rw [hst, ackE_eq, hab] at e ha
    have hE : doesE L dur o pub d (abst st n) = ackE' (abst st n) pub o.n := by
      unfold doesE
      rw [if_neg h01, if_pos (show what6 o = 2 from h2)]
    simp [s0, s1, s2, s3, s4, s5, g7, g8, g9, h0, h1, h2, e, ex0, hE]
    refine ⟨st', hS, ?_⟩
    unfold doesX
    rw [if_neg h01, if_pos (show what6 o = 2 from h2), hE, ha]
    split
    · show updS (abst st) n _ = updS (abst st) n _
      congr 1
      unfold abst
      cases st n <;> rfl
    · exact (updS_self _ _).symm
  have h22 : ¬ what6 o = 2 := h2
  have tail : ∀ F' : Fr, F'.n = F.n → (∀ k, k < 7 → sl F' k = sl F k) → ¬ (what6 o = 3 ∧ (o.n : Int).tmod 7 = 0) → True := fun _ _ _ _ => trivial
  obtain ⟨r, T1, ⟨rfl, hT1⟩, e1⟩ := (fits16 hb hh n pub d hd).ex
  have hB1 := hB.sub hT1
  obtain ⟨q7, q8, q9, q13, q3, _⟩ := id hB1
  obtain ⟨r2, T2, ⟨st2, hS2, ha2⟩, e2⟩ := (tell_item (hb.toSub hT1) (hh.sub hT1) n pub d (hd.sub hT1) hD hg).ex
  rw [hst, fitsV_eq, hab] at ha2 e1
  simp only [encD] at g13 q13 e1 e2
  have fin : ¬ (what6 o = 3 ∧ (o.n : Int).tmod 7 = 0) → doesE L dur o pub d (abst st n) = fitsV' (abst st n) L dur pub d ∧ ∃ st', Step S T2 b st st' ∧ abst st' = updS (abst st) n (doesX L dur o pub d (abst st n)) := fun h3 => by
    have hE : doesE L dur o pub d (abst st n) = fitsV' (abst st n) L dur pub d := by
      unfold doesE
      rw [if_neg h01, if_neg h22, if_neg h3]
    refine ⟨hE, st2, hS2.after hT1, ?_⟩
    unfold doesX
    rw [if_neg h01, if_neg h22, if_neg h3, hE, ha2]
    split
    · show updS (abst st) n _ = updS (abst st) n _
      congr 1
      unfold abst
      cases st n <;> rfl
    · exact (updS_self _ _).symm
  have huk := okW_sl hd.sl
  by_cases h3 : o.what.tmod 6 = 3
  · by_cases h7 : (o.n : Int).tmod 7 = 0
    · obtain ⟨r, T, ⟨rfl, st', hS, ha⟩, e⟩ := (unsub22 hb n).ex
      rw [hst, hsome] at e ha
      have hE : doesE L dur o pub d (abst st n) = if (abst st n).isSome = true then 0 else 6 := by
        unfold doesE
        rw [if_neg h01, if_neg h22, if_pos ⟨h3, h7⟩]
      simp [s0, s1, s2, s3, s4, s5, g7, g8, g9, h0, h1, h2, h3, h7, e, ex0, hE]
      refine ⟨st', hS, ?_⟩
      unfold doesX
      rw [if_neg h01, if_neg h22, if_pos ⟨h3, h7⟩, ha]
      split
      · rfl
      · rename_i hno
        exact (updS_self' (by simpa using hno)).symm
    · obtain ⟨f1, f2⟩ := fin (fun h => h7 h.2)
      simp [s0, s1, s2, s3, s4, s5, g7, g8, g9, g13, g3, q7, q8, q9, q13, q3, h0, h1, h2, h3, h7, e1, e2, ex0, huk]
      exact ⟨f1.symm, f2⟩
  · obtain ⟨f1, f2⟩ := fin (fun h => h3 h.1)
    simp [s0, s1, s2, s3, s4, s5, g7, g8, g9, g13, g3, q7, q8, q9, q13, q3, h0, h1, h2, h3, e1, e2, ex0, huk]
    exact ⟨f1.symm, f2⟩
end
end Go.Proofs.YtedonhemfhfbaaaGreat.mod

namespace Go.Proofs.YtedonhemfhfbaaaGreat.mod
open Go Go.Am
set_option linter.unusedVariables false
set_option linter.unusedSimpArgs false

structure OwnAt (S : AS) (lo b1 b2 h B3 : Nat) (st1 st2 : Nat → Option SubX) (v : AV) (L : List Kept) (dur : Nat) : Prop where
  k1 : BookAt S b1 st1
  k2 : BookAt S b2 st2
  hh : HistAt S h v L dur
  g3 : S.h.get B3 = some (.row [.ptr h 0 0 3] 0 0 false 25)
  l3 : B3 < S.next
  d12 : ∀ id, bookFoot b1 st1 id → bookFoot b2 st2 id → False
  d1h : ∀ id, bookFoot b1 st1 id → histFoot h v L id → False
  d2h : ∀ id, bookFoot b2 st2 id → histFoot h v L id → False
  d13 : ¬ bookFoot b1 st1 B3
  d23 : ¬ bookFoot b2 st2 B3
  lo1 : ∀ id, bookFoot b1 st1 id → lo ≤ id
  lo2 : ∀ id, bookFoot b2 st2 id → lo ≤ id
  lo : lo ≤ S.next
section
variable {S T : AS} {lo b1 b2 h B3 : Nat} {st1 st2 : Nat → Option SubX} {v : AV} {L : List Kept} {dur : Nat}
theorem OwnAt.swap (o : OwnAt S lo b1 b2 h B3 st1 st2 v L dur) : OwnAt S lo b2 b1 h B3 st2 st1 v L dur :=
  ⟨o.k2, o.k1, o.hh, o.g3, o.l3, fun id a b => o.d12 id b a, o.d2h, o.d1h, o.d23, o.d13, o.lo2, o.lo1, o.lo⟩
theorem OwnAt.sub (o : OwnAt S lo b1 b2 h B3 st1 st2 v L dur) (hs : Sub S T) : OwnAt T lo b1 b2 h B3 st1 st2 v L dur :=
  ⟨o.k1.toSub hs, o.k2.toSub hs, o.hh.sub hs, by rw [hs.h _ o.l3]; exact o.g3, Nat.lt_of_lt_of_le o.l3 hs.next, o.d12, o.d1h, o.d2h, o.d13, o.d23, o.lo1, o.lo2, Nat.le_trans o.lo hs.next⟩
theorem OwnAt.step1 {st' : Nat → Option SubX} (o : OwnAt S lo b1 b2 h B3 st1 st2 v L dur) (hs : Step S T b1 st1 st') : OwnAt T lo b1 b2 h B3 st' st2 v L dur := by
  have hn := hs.keep.next
  have l3 := o.l3
  refine ⟨hs.book, o.k2.agree (fun id hf => hs.keep.h id (o.k2.foot hf) (fun h1 => o.d12 id h1 hf)) hn, o.hh.agree (fun id hf => hs.keep.h id (o.hh.foot hf) (fun h1 => o.d1h id h1 hf)) hn, ?_, by omega, ?_, ?_, o.d2h, ?_, o.d23, ?_, o.lo2, Nat.le_trans o.lo hn⟩
  · rw [hs.keep.h _ o.l3 o.d13]; exact o.g3
  · intro id f1 f2
    rcases hs.foot id f1 with h1 | h1
    · exact o.d12 id h1 f2
    · have := o.k2.foot f2; omega
  · intro id f1 f2
    rcases hs.foot id f1 with h1 | h1
    · exact o.d1h id h1 f2
    · have := o.hh.foot f2; omega
  · intro f1
    rcases hs.foot _ f1 with h1 | h1
    · exact o.d13 h1
    · omega
  · intro id f1
    rcases hs.foot id f1 with h1 | h1
    · exact o.lo1 id h1
    · have := o.lo; omega
theorem OwnAt.step2 {st' : Nat → Option SubX} (o : OwnAt S lo b1 b2 h B3 st1 st2 v L dur) (hs : Step S T b2 st2 st') : OwnAt T lo b1 b2 h B3 st1 st' v L dur := (o.swap.step1 hs).swap
theorem OwnAt.sub0 {R : AS} {st' : Nat → Option SubX} (o : OwnAt S R.next b1 b2 h B3 st1 st2 v L dur) (h0 : Sub R S) (hs : Step S T b1 st1 st') : Sub R T :=
  ⟨fun id hi => (hs.keep.h id (Nat.lt_of_lt_of_le hi h0.next) (fun hf => by have := o.lo1 id hf; omega)).trans (h0.h id hi), Nat.le_trans h0.next hs.keep.next⟩
theorem Boxes.keep {A : Nat → Prop} {o : OpG} {id pub : Int} {d : Dlv} {h B7 B8 B9 B13 B3 : Nat} (b : Boxes S o id pub d h B7 B8 B9 B13 B3) (hs : Keep A S T) (a7 : ¬ A B7) (a8 : ¬ A B8) (a9 : ¬ A B9) (a13 : ¬ A B13) (a3 : ¬ A B3) : Boxes T o id pub d h B7 B8 B9 B13 B3 :=
  ⟨by rw [hs.h _ b.l7 a7]; exact b.g7, by rw [hs.h _ b.l8 a8]; exact b.g8, by rw [hs.h _ b.l9 a9]; exact b.g9, by rw [hs.h _ b.l13 a13]; exact b.g13, by rw [hs.h _ b.l3 a3]; exact b.g3, Nat.lt_of_lt_of_le b.l7 hs.next, Nat.lt_of_lt_of_le b.l8 hs.next, Nat.lt_of_lt_of_le b.l9 hs.next, Nat.lt_of_lt_of_le b.l13 hs.next, Nat.lt_of_lt_of_le b.l3 hs.next⟩
/-- Item, of any number. -/
theorem item_any (hh : HistAt S h v L dur) (n : Nat) : CallW C0 14 [.ptr h 0 0 3, .int .u64 n] S fun r T =>
    ∃ (nn tt : Nat) (key : List Nat) (u : AV) (atts : List Att) (s : Int) (is : Bool), r = .tuple [.agg [.int .u64 nn, .int .u64 tt, .str key, u], .int .i64 s, .bool is] ∧ AttsAt T u atts ∧ (bnd u = 0 ∨ S.next < bnd u) ∧ Sub S T := by
  by_cases hn : n < 1 ∨ L.length < n
  · obtain ⟨r, T, ⟨rfl, hT⟩, e⟩ := (item_no hh hn).ex
    rw [e]
    exact ⟨0, 0, [], .nils, [], 0, false, rfl, atts_nil, .inl rfl, hT⟩
  · obtain ⟨m, rfl⟩ : ∃ m, n = m + 1 := ⟨n - 1, by omega⟩
    have hk : L[m]? = some (L[m]'(by omega)) := List.getElem?_eq_getElem _
    obtain ⟨r, T, ⟨u', rfl, h1, h2, hT⟩, e⟩ := (item_yes hh hk).ex
    rw [e]
    exact ⟨m + 1, _, _, u', _, _, true, rfl, h1, h2, hT⟩
def nextS (x : Option SubS) (pub : Int) : Nat := match x with | none => 0 | some x => nextN x pub
def roomS (x : Option SubS) : Int := match x with | none => 0 | some x => 8 - (x.told.length : Int)
theorem next_own {b : Nat} {st : Nat → Option SubX} (hb : BookAt S b st) (pub : Int) : CallW C0 23 [.ptr b 0 0 17, .int .i64 0, .int .i64 pub] S fun r T => r = .int .u64 (nextS (abst st 0) pub) ∧ Sub S T := by
  obtain ⟨r, T, h, e⟩ := (nextOf23 hb 0 pub).ex
  rw [e]
  refine ⟨?_, h.2⟩
  rw [h.1]
  have : stAt st 0 = st 0 := stAt_nat st (n := 0) (by omega)
  rw [this]
  unfold abst
  cases st 0 <;> rfl
theorem room_own {b : Nat} {st : Nat → Option SubX} (hb : BookAt S b st) {Q : AV → AS → Prop} : CallW C0 19 [.ptr b 0 0 17, .int .i64 0] S Q = Q (.int .i64 (roomS (abst st 0))) S := by
  rw [room19 hb 0]
  have : stAt st 0 = st 0 := stAt_nat st (n := 0) (by omega)
  rw [this]
  unfold abst
  cases st 0 <;> rfl
end
structure OpsAt (S : AS) (x : AV) (l : List OpG) : Prop where
  sl : Sl S x 18 (l.flatMap encO)
  pred : ∀ o, o ∈ l → PredAt S o.p o.ks
  ok : ∀ o, o ∈ l → okV o.eu = true ∧ okV o.sv = true ∧ okV o.du = true
end Go.Proofs.YtedonhemfhfbaaaGreat.mod

namespace Go.Proofs.YtedonhemfhfbaaaGreat.mod
open Go Go.Am
set_option linter.unusedVariables false
set_option linter.unusedSimpArgs false
theorem bitsS_one (n : Int) : ∃ m : Nat, m < 2 ∧ bitsS .and .i64 n 1 = (m : Int) := by
  have h : ((BitVec.ofInt 64 n) &&& (BitVec.ofInt 64 1)).toNat = (BitVec.ofInt 64 n).toNat % 2 := by
    rw [BitVec.toNat_and]
    have : (BitVec.ofInt 64 1).toNat = 1 := by decide
    rw [this, Nat.and_one_is_mod]
  refine ⟨(BitVec.ofInt 64 n).toNat % 2, Nat.mod_lt _ (by omega), ?_⟩
  show IntKind.i64.wrap (((BitVec.ofInt 64 n) &&& (BitVec.ofInt 64 1)).toNat : Int) = _
  rw [h]
  have h2 : (BitVec.ofInt 64 n).toNat % 2 < 2 := Nat.mod_lt _ (by omega)
  exact IntWalk.i64_in _ (by omega)
theorem and_one (n : Int) : ∃ m : Nat, m < 2 ∧ bitsI .and .i64 n 1 = .int .i64 m := by
  obtain ⟨m, h1, h2⟩ := bitsS_one n
  cases n with
  | negSucc a => exact ⟨m, h1, by show forceI (bitsS .and .i64 _ 1) (fun n => AV.int .i64 n) = _; rw [h2, forceI_eq]⟩
  | ofNat a =>
    show ∃ m : Nat, m < 2 ∧ cond (Nat.blt a (half .i64) && Nat.blt 1 (half .i64)) (forceN (natBits .and a 1) fun n => AV.int .i64 (Int.ofNat n)) (forceI (bitsS .and .i64 (.ofNat a) 1) fun n => AV.int .i64 n) = AV.int .i64 m
    cases hc : (Nat.blt a (half .i64) && Nat.blt 1 (half .i64)) with
    | true =>
      refine ⟨a % 2, Nat.mod_lt _ (by omega), ?_⟩
      have : natBits .and a 1 = a % 2 := Nat.and_one_is_mod a
      rw [cond_true, this, forceN_eq]
      rfl
    | false =>
      rw [cond_false, h2]
      exact ⟨m, h1, by rw [forceI_eq]⟩
theorem binV_and1 (n : Int) : ∃ m : Nat, m < 2 ∧ ∀ c, binV C0 .and 3 c (.int .i64 n) (.int .i64 1) = some (.int .i64 m) := by
  obtain ⟨m, h1, h2⟩ := and_one n
  refine ⟨m, h1, fun c => ?_⟩
  show cond (kindEq .i64 .i64) (some (bitsI .and .i64 n 1)) none = _
  rw [h2]; rfl
end Go.Proofs.YtedonhemfhfbaaaGreat.mod
