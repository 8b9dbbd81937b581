/-
  Events: facts of functions and types, attributes.
  Names.
  Which events may be.
  Get, Same: the program's and the reference's.
  Same: the program's and the reference's.
  Attributes sorted by their names.
  SortFunc of few attributes.
  Make: the program's.
  Make: the reference's.
  Text: the program's and the reference's.
  What Make makes: plain Lean.
-/
import Derived.Test.YtpglcebeldgeeaaDoorPartC
import Derived.Test.YtpglcebeldgeeaaDoorAmCut
import Derived.Sort.LotA
namespace Go.Proofs.YtpglcebeldgeeaaDoor.val
open Go Go.Am Go.Proofs.YtpglcebeldgeeaaDoor.laid
set_option linter.unusedVariables false
set_option linter.unusedSimpArgs false

@[simp] theorem e_st22 : slT C0 22 = some (38, 5, 56) := by kernel_rfl
@[simp] theorem e_un22 : und C0 22 = some (.slice 38) := by kernel_rfl
@[simp] theorem e_sz24 : szOf C0 24 = some 2 := by kernel_rfl
@[simp] theorem e_ze24 : zeroOf C0 24 = some (.agg [.str [], .nils]) := by kernel_rfl
@[simp] theorem e_ag24 : aggOf C0 24 = some true := by kernel_rfl
@[simp] theorem e_fa24_1 : fieldAt C0 24 1 = some 1 := by kernel_rfl
@[simp] theorem e_ag22 : aggOf C0 22 = some false := by kernel_rfl
@[simp] theorem e_sz22 : szOf C0 22 = some 1 := by kernel_rfl
@[simp] theorem e_fa34_0 : fieldAt C0 38 0 = some 0 := by kernel_rfl
@[simp] theorem e_sz9 : szOf C0 9 = some 1 := by kernel_rfl
@[simp] theorem e_ag34 : aggOf C0 38 = some true := by kernel_rfl
@[simp] theorem e_sz34 : szOf C0 38 = some 5 := by kernel_rfl
@[simp] theorem e_sz32 : szOf C0 36 = some 4 := by kernel_rfl
@[simp] theorem e_ze32 : zeroOf C0 36 = some (.agg [.int .i64 0, .int .i64 0, .str [], .bool false]) := by kernel_rfl
@[simp] theorem e_ag32 : aggOf C0 36 = some true := by kernel_rfl
theorem e_fn5 : C0.fns.get 11 = some Tryd.f11 := by kernel_rfl
theorem e_ok5 : codeOk C0 Tryd.f11.ntmps (Tryd.f11.body.getD .skip) = true := by kernel_rfl
@[simp] theorem e_ag9 : aggOf C0 9 = some false := by kernel_rfl
theorem e_fn7 : C0.fns.get 8 = some Tryd.f8 := by kernel_rfl
theorem e_ok7 : codeOk C0 Tryd.f8.ntmps (Tryd.f8.body.getD .skip) = true := by kernel_rfl
@[simp] theorem e_fa24_0 : fieldAt C0 24 0 = some 0 := by kernel_rfl
theorem e_fn8 : C0.fns.get 12 = some Tryd.f12 := by kernel_rfl
theorem e_ok8 : codeOk C0 Tryd.f12.ntmps (Tryd.f12.body.getD .skip) = true := by kernel_rfl
@[simp] theorem e_fa34_1 : fieldAt C0 38 1 = some 1 := by kernel_rfl
theorem e_fn10 : C0.fns.get 6 = some Tryd.f6 := by kernel_rfl
theorem e_ok10 : codeOk C0 Tryd.f6.ntmps (Tryd.f6.body.getD .skip) = true := by kernel_rfl
@[simp] theorem e_ze34 : zeroOf C0 38 = some (.agg [.str [], .int .i64 0, .int .i64 0, .str [], .bool false]) := by kernel_rfl
theorem e_fn12 : C0.fns.get 9 = some Tryd.f9 := by kernel_rfl
theorem e_ok12 : codeOk C0 Tryd.f9.ntmps (Tryd.f9.body.getD .skip) = true := by kernel_rfl
theorem e_fn13 : C0.fns.get 17 = some Tryd.f17 := by kernel_rfl
theorem e_ok13 : codeOk C0 Tryd.f17.ntmps (Tryd.f17.body.getD .skip) = true := by kernel_rfl
theorem e_fn16 : C0.fns.get 5 = some Tryd.f5 := by kernel_rfl
theorem e_ok16 : codeOk C0 Tryd.f5.ntmps (Tryd.f5.body.getD .skip) = true := by kernel_rfl
@[simp] theorem e_sz64 : szOf C0 45 = some 2 := by kernel_rfl
@[simp] theorem e_ze64 : zeroOf C0 45 = some (.agg [.nilp, .nils]) := by kernel_rfl
theorem e_fn18 : C0.fns.get 7 = some Tryd.f7 := by kernel_rfl
theorem e_ok18 : codeOk C0 Tryd.f7.ntmps (Tryd.f7.body.getD .skip) = true := by kernel_rfl
@[simp] theorem e_fa32_2 : fieldAt C0 36 2 = some 2 := by kernel_rfl
@[simp] theorem e_fa74_0 : fieldAt C0 57 0 = some 0 := by kernel_rfl
@[simp] theorem e_fa32_0 : fieldAt C0 36 0 = some 0 := by kernel_rfl
@[simp] theorem e_ag3 : aggOf C0 3 = some false := by kernel_rfl
@[simp] theorem e_sz3 : szOf C0 3 = some 1 := by kernel_rfl
theorem e_fn20 : C0.fns.get 25 = some Tryd.f25 := by kernel_rfl
theorem e_ok20 : codeOk C0 Tryd.f25.ntmps (Tryd.f25.body.getD .skip) = true := by kernel_rfl
theorem e_fn21 : C0.fns.get 26 = some Tryd.f26 := by kernel_rfl
theorem e_ok21 : codeOk C0 Tryd.f26.ntmps (Tryd.f26.body.getD .skip) = true := by kernel_rfl
@[simp] theorem e_cv3_84 : convT C0 3 86 = some .u64 := by kernel_rfl
theorem e_fn22 : C0.fns.get 27 = some Tryd.f27 := by kernel_rfl
theorem e_ok22 : codeOk C0 Tryd.f27.ntmps (Tryd.f27.body.getD .skip) = true := by kernel_rfl
theorem e_fn23 : C0.fns.get 28 = some Tryd.f28 := by kernel_rfl
theorem e_ok23 : codeOk C0 Tryd.f28.ntmps (Tryd.f28.body.getD .skip) = true := by kernel_rfl
theorem e_fn24 : C0.fns.get 29 = some Tryd.f29 := by kernel_rfl
theorem e_ok24 : codeOk C0 Tryd.f29.ntmps (Tryd.f29.body.getD .skip) = true := by kernel_rfl
theorem e_fn25 : C0.fns.get 30 = some Tryd.f30 := by kernel_rfl
theorem e_ok25 : codeOk C0 Tryd.f30.ntmps (Tryd.f30.body.getD .skip) = true := by kernel_rfl
theorem e_fn28 : C0.fns.get 22 = some Tryd.f22 := by kernel_rfl
theorem e_ok28 : codeOk C0 Tryd.f22.ntmps (Tryd.f22.body.getD .skip) = true := by kernel_rfl
theorem e_fn29 : C0.fns.get 36 = some Tryd.f36 := by kernel_rfl
theorem e_ok29 : codeOk C0 Tryd.f36.ntmps (Tryd.f36.body.getD .skip) = true := by kernel_rfl
theorem e_fn30 : C0.fns.get 37 = some Tryd.f37 := by kernel_rfl
theorem e_ok30 : codeOk C0 Tryd.f37.ntmps (Tryd.f37.body.getD .skip) = true := by kernel_rfl
theorem e_fn38 : C0.fns.get 19 = some Tryd.f19 := by kernel_rfl
theorem e_ok38 : codeOk C0 Tryd.f19.ntmps (Tryd.f19.body.getD .skip) = true := by kernel_rfl
theorem e_fn40 : C0.fns.get 21 = some Tryd.f21 := by kernel_rfl
theorem e_ok40 : codeOk C0 Tryd.f21.ntmps (Tryd.f21.body.getD .skip) = true := by kernel_rfl
theorem e_fn43 : C0.fns.get 42 = some Tryd.f42 := by kernel_rfl
theorem e_ok43 : codeOk C0 Tryd.f42.ntmps (Tryd.f42.body.getD .skip) = true := by kernel_rfl
theorem e_fn44 : C0.fns.get 43 = some Tryd.f43 := by kernel_rfl
theorem e_ok44 : codeOk C0 Tryd.f43.ntmps (Tryd.f43.body.getD .skip) = true := by kernel_rfl
@[simp] theorem e_cv84_110 : convT C0 86 105 = some .u32 := by kernel_rfl
theorem e_fn45 : C0.fns.get 44 = some Tryd.f44 := by kernel_rfl
theorem e_ok45 : codeOk C0 Tryd.f44.ntmps (Tryd.f44.body.getD .skip) = true := by kernel_rfl
theorem e_fn48 : C0.fns.get 50 = some Tryd.f50 := by kernel_rfl
theorem e_ok48 : codeOk C0 Tryd.f50.ntmps (Tryd.f50.body.getD .skip) = true := by kernel_rfl
@[simp] theorem e_st58 : slT C0 43 = some (5, 1, 1) := by kernel_rfl
@[simp] theorem e_ag5 : aggOf C0 5 = some false := by kernel_rfl
@[simp] theorem e_sz5 : szOf C0 5 = some 1 := by kernel_rfl
theorem e_fn56 : C0.fns.get 41 = some Tryd.f41 := by kernel_rfl
theorem e_ok56 : codeOk C0 Tryd.f41.ntmps (Tryd.f41.body.getD .skip) = true := by kernel_rfl
theorem e_fn60 : C0.fns.get 55 = some Tryd.f55 := by kernel_rfl
theorem e_ok60 : codeOk C0 Tryd.f55.ntmps (Tryd.f55.body.getD .skip) = true := by kernel_rfl
theorem e_fn69 : C0.fns.get 64 = some Tryd.f64 := by kernel_rfl
theorem e_ok69 : codeOk C0 Tryd.f64.ntmps (Tryd.f64.body.getD .skip) = true := by kernel_rfl
@[simp] theorem e_cv94_5 : convT C0 93 5 = some .u8 := by kernel_rfl
@[simp] theorem e_cv5_3 : convT C0 5 3 = some .i64 := by kernel_rfl
theorem e_fn79 : C0.fns.get 54 = some Tryd.f54 := by kernel_rfl
theorem e_ok79 : codeOk C0 Tryd.f54.ntmps (Tryd.f54.body.getD .skip) = true := by kernel_rfl
theorem e_fn95 : C0.fns.get 75 = some Tryd.f75 := by kernel_rfl
theorem e_ok95 : codeOk C0 Tryd.f75.ntmps (Tryd.f75.body.getD .skip) = true := by kernel_rfl

def idxI {α : Type} (P : α → Bool) (l : List α) : Int := match l.findIdx? P with | some i => (i : Int) | none => -1
theorem idxI_none {α : Type} {P : α → Bool} {l : List α} (h : ∀ x, x ∈ l → P x = false) : idxI P l = -1 := by
  unfold idxI
  rw [List.findIdx?_eq_none_iff.2 h]
theorem idxI_at {α : Type} {P : α → Bool} {l : List α} {i : Nat} {x : α} (h : l[i]? = some x) (hp : P x = true) (ha : ∀ x, x ∈ l.take i → P x = false) : idxI P l = i := by
  obtain ⟨hi, rfl⟩ := List.getElem?_eq_some_iff.1 h
  have : l.findIdx? P = some i := by
    rw [List.findIdx?_eq_some_iff_getElem]
    refine ⟨hi, hp, fun j hj => ?_⟩
    have := ha l[j] (List.mem_take_iff_getElem.2 ⟨j, by omega, rfl⟩)
    simp [this]
  unfold idxI
  rw [this]
theorem idxI_any {α : Type} {P : α → Bool} {l : List α} : decide (0 ≤ idxI P l) = l.any P := by
  unfold idxI
  cases h : l.findIdx? P with
  | none =>
    have := List.findIdx?_eq_none_iff.1 h
    have h2 : l.any P = false := by rw [List.any_eq_false]; intro x hx; simp [this x hx]
    rw [h2]; rfl
  | some i =>
    obtain ⟨hi, hp, _⟩ := List.findIdx?_eq_some_iff_getElem.1 h
    have h2 : l.any P = true := List.any_eq_true.2 ⟨l[i], List.getElem_mem hi, hp⟩
    rw [h2]; simp
theorem take_step {α : Type} {P : α → Bool} {l : List α} {i : Nat} {x : α} (h : l[i]? = some x) (hp : P x = false) (ha : ∀ x, x ∈ l.take i → P x = false) : ∀ x, x ∈ l.take (i + 1) → P x = false := by
  obtain ⟨hi, rfl⟩ := List.getElem?_eq_some_iff.1 h
  intro y hy
  rw [List.take_succ_eq_append_getElem hi] at hy
  rcases List.mem_append.1 hy with hy | hy
  · exact ha y hy
  · simp at hy; subst hy; exact hp
def idxH {α : Type} (S : AS) (u g : AV) (l : List α) (P : α → Bool) (k : Nat) (F' : Fr) (S' : AS) : Prop :=
  ∃ i : Nat, Sub S S' ∧ sl F' 0 = u ∧ sl F' 1 = g ∧ sl F' 7 = .int .i64 l.length ∧ sl F' 8 = .int .i64 i ∧ i ≤ l.length ∧ k = l.length - i ∧ ∀ x, x ∈ l.take i → P x = false
theorem idxH_mk {α : Type} {S : AS} {u g : AV} {l : List α} {P : α → Bool} {k : Nat} {F' : Fr} {S' : AS} (i : Nat) (h1 : Sub S S') (h2 : sl F' 0 = u) (h3 : sl F' 1 = g) (h4 : sl F' 7 = .int .i64 l.length) (h5 : sl F' 8 = .int .i64 i) (h6 : i ≤ l.length) (h7 : k = l.length - i) (h8 : ∀ x, x ∈ l.take i → P x = false) : idxH S u g l P k F' S' :=
  ⟨i, h1, h2, h3, h4, h5, h6, h7, h8⟩
theorem get_mid {α : Type} {l m r : List α} {j : Nat} : (l ++ m ++ r)[j]? = if j < l.length then l[j]? else if j < l.length + m.length then m[j - l.length]? else r[j - l.length - m.length]? := by
  rw [List.append_assoc, List.getElem?_append]
  split
  · rfl
  · rename_i h
    rw [List.getElem?_append]
    by_cases h2 : j < l.length + m.length
    · rw [if_pos (by omega), if_pos h2]
    · rw [if_neg (by omega), if_neg h2]
theorem gw_putw {S : AS} {id g off n lim sz e c : Nat} {cap : Option Nat} {cs new : List AV} (h : Gw S (.slice id g off n lim sz cap) sz e cs) (hn : 0 < n) (hz : 0 < sz) (hc : c + new.length ≤ n * sz) :
    ∃ T, wr S id g (off + c) lim new = some T ∧ Gw T (.slice id g off n lim sz cap) sz e (cs.take c ++ new ++ cs.drop (c + new.length)) ∧ (∀ j, j ≠ id → T.h.get j = S.h.get j) ∧ T.next = S.next := by
  obtain ⟨h1, h2⟩ := h
  rcases h2 with e1 | ⟨id', g', off', n', lim', cap', e1, hcp, hlt, cells, low, top, hg, hl, htq⟩
  · cases e1
  · cases e1
    subst htq
    obtain ⟨id'', g'', off'', n'', lim'', cap'', e2, cells', low', top', frz', ty', hg', k1, k2, k3, k4⟩ := rdS_some h1 (k := 0) (by simpa [sLen] using hn)
    cases e2
    rw [hg] at hg'
    cases hg'
    have hlen := h1.len
    simp only [sLen] at hlen
    have hpos : 0 < n * sz := Nat.mul_pos hn hz
    have hcl : cs.length ≤ cells.length - off := by rw [← k4, List.length_take, List.length_drop]; omega
    have hsp := splice_eq (off + c) cells new (by omega)
    refine ⟨⟨S.h.set id (.row (cells.take (off + c) ++ new ++ cells.drop (off + c + new.length)) g g false e), S.next⟩, ?_, ⟨⟨h1.sl, ?_, ?_, h1.old⟩, .inr ⟨id, g, off, n, lim, cap, rfl, hcp, hlt, _, g, g, get_set_same _ _ _, Nat.le_refl _, rfl⟩⟩, fun j hj => get_set_ne _ _ hj, rfl⟩
    · rw [wr_at, hg, wrO_row, if_pos ⟨rfl, by omega, rfl⟩, hsp]
    · obtain ⟨m, rfl⟩ : ∃ m, n = m + 1 := ⟨n - 1, by omega⟩
      simp only [rdS, rd_at, get_set_same, rdO_row]
      rw [if_pos ⟨Nat.le_refl _, Nat.le_refl _, k3⟩]
      congr 1
      rw [← k4]
      apply List.ext_getElem?
      intro j
      rw [List.getElem?_take, List.getElem?_drop, get_mid, get_mid]
      simp only [List.length_take, List.length_drop, List.getElem?_take, List.getElem?_drop]
      have q1 : min (off + c) cells.length = off + c := by omega
      have q2 : min c (min ((m + 1) * sz) (cells.length - off)) = c := by omega
      rw [q1, q2]
      by_cases hj : j < (m + 1) * sz
      · rw [if_pos hj]
        by_cases hjc : j < c
        · rw [if_pos (by omega), if_pos (by omega), if_pos hjc, if_pos hjc, if_pos hj]
        · by_cases hjn : j < c + new.length
          · rw [if_neg (by omega), if_pos (by omega), if_neg hjc, if_pos hjn]
            congr 1; omega
          · rw [if_neg (by omega), if_neg (by omega), if_neg hjc, if_neg hjn, if_pos (by omega)]
            congr 1; omega
      · rw [if_neg hj, if_neg (by omega), if_neg (by omega), if_neg (by omega)]
    · simp only [List.length_append, List.length_take, List.length_drop, sLen]; omega
theorem gw_pute {S : AS} {v : AV} {sz e i : Nat} {α : Type} {enc : α → List AV} {L : List α} (h : Gw S v sz e (L.flatMap enc)) (hz : ∀ x, (enc x).length = sz) (hp : 0 < sz) (hi : i < L.length) (y : α) :
    ∃ T, wrV S (pAt v i) (enc y) = some T ∧ Gw T v sz e ((L.set i y).flatMap enc) ∧ (∀ j, j + 1 ≠ bnd v → T.h.get j = S.h.get j) ∧ T.next = S.next := by
  have hl := h.1.len_flat hz hp
  rcases h.2 with rfl | ⟨id, g, off, n, lim, cap, rfl, _⟩
  · simp [sLen] at hl; omega
  · simp only [sLen] at hl
    have hle : i * sz + sz ≤ n * sz := by rw [← Nat.succ_mul]; exact Nat.mul_le_mul_right _ (by omega)
    obtain ⟨T, h1, h2, h3, h4⟩ := gw_putw (c := i * sz) (new := enc y) h (by omega) hp (by rw [hz]; exact hle)
    rw [hz, ← fm_set hz hi] at h2
    exact ⟨T, h1, h2, fun j hj => h3 j (fun e => hj (by simp [bnd, e])), h4⟩
theorem cut_flat {α : Type} {sz : Nat} {enc : α → List AV} {S : AS} {v : AV} {L : List α} (h : Sl S v sz (L.flatMap enc)) (hz : ∀ x, (enc x).length = sz) (hp : 0 < sz) {l k : Nat} (h1 : l ≤ k) (h2 : k ≤ L.length) : Sl S (subA v l k) sz (((L.drop l).take (k - l)).flatMap enc) := by
  have := h.cut h1 (by rw [h.len_flat hz hp]; exact h2)
  rw [fm_drop hz, fm_take hz] at this
  exact this
theorem lt_tri : ∀ a b : List Nat, (ltS a b = true ∧ eqS a b = false ∧ ltS b a = false) ∨ (ltS a b = false ∧ eqS a b = true ∧ ltS b a = false) ∨ (ltS a b = false ∧ eqS a b = false ∧ ltS b a = true)
  | [], [] => .inr (.inl ⟨rfl, rfl, rfl⟩)
  | [], _ :: _ => .inl ⟨rfl, rfl, rfl⟩
  | _ :: _, [] => .inr (.inr ⟨rfl, rfl, rfl⟩)
  | x :: a, y :: b => by
    have e1 : ltS (x :: a) (y :: b) = cond (Nat.blt x y) true (cond (Nat.beq x y) (ltS a b) false) := rfl
    have e2 : eqS (x :: a) (y :: b) = cond (Nat.beq x y) (eqS a b) false := rfl
    have e3 : ltS (y :: b) (x :: a) = cond (Nat.blt y x) true (cond (Nat.beq y x) (ltS b a) false) := rfl
    rw [e1, e2, e3]
    simp only [nblt, nbeq]
    rcases Nat.lt_trichotomy x y with h | h | h
    · have h1 : ¬ y < x := by omega
      have h2 : ¬ x = y := by omega
      have h3 : ¬ y = x := by omega
      simp [h, h1, h2, h3]
    · subst h
      have := lt_tri a b
      simpa using this
    · have h1 : ¬ x < y := by omega
      have h2 : ¬ x = y := by omega
      have h3 : ¬ y = x := by omega
      simp [h, h1, h2, h3]
theorem ltS_trans : ∀ a b c : List Nat, ltS a b = true → ltS b c = true → ltS a c = true
  | [], [], _, h, _ => by cases h
  | [], _ :: _, [], _, h => by cases h
  | [], _ :: _, _ :: _, _, _ => rfl
  | _ :: _, [], _, h, _ => by cases h
  | _ :: _, _ :: _, [], _, h => by cases h
  | x :: a, y :: b, z :: c, h1, h2 => by
    have e : ∀ (x y : Nat) (a b : List Nat), ltS (x :: a) (y :: b) = cond (Nat.blt x y) true (cond (Nat.beq x y) (ltS a b) false) := fun _ _ _ _ => rfl
    rw [e, nblt, nbeq] at h1 h2 ⊢
    have ih := ltS_trans a b c
    by_cases h3 : x < y
    · by_cases h4 : y < z
      · have : x < z := by omega
        simp [this]
      · by_cases h5 : y = z
        · subst h5; simp [h3]
        · simp [h4, h5] at h2
    · by_cases h6 : x = y
      · subst h6
        simp [h3] at h1
        by_cases h4 : x < z
        · simp [h4]
        · by_cases h5 : x = z
          · subst h5
            simp [h4] at h2
            simp [ih h1 h2]
          · simp [h4, h5] at h2
      · simp [h3, h6] at h1
theorem ltS_irr (a : List Nat) : ltS a a = false := by
  rcases lt_tri a a with ⟨h1, _, h3⟩ | ⟨h1, _, _⟩ | ⟨h1, _, _⟩
  · rw [h1] at h3; cases h3
  · exact h1
  · exact h1
structure Att where
  name : List Nat
  val : ValV
deriving DecidableEq
instance : Inhabited Att := ⟨⟨[], zeroV⟩⟩
def encA (a : Att) : List AV := .str a.name :: encV a.val
theorem okW_sl {S : AS} {v : AV} {sz : Nat} {cs : List AV} (h : Sl S v sz cs) : okW v = true := okW_of h.ok
theorem encA_len (a : Att) : (encA a).length = 5 := rfl
theorem sl_bytes {S : AS} (l : List Nat) : Sl ⟨S.h.set S.next (.row (bytA l) 0 0 false 5), S.next + 1⟩ (.slice S.next 0 0 l.length l.length 1 none) 1 (bytA l) := by
  refine ⟨by simp [isSl, capB], ?_, by simp [sLen, bytA_len], by simp [bnd]⟩
  cases l with
  | nil => simp [rdS, bytA]
  | cons x l =>
    simp [rdS, rd_at, get_set_same, rdO_row, bytA]
    rw [List.take_of_length_le (by simp)]
end Go.Proofs.YtpglcebeldgeeaaDoor.val

namespace Go.Proofs.YtpglcebeldgeeaaDoor.val
open Go Go.Am Go.Proofs.YtpglcebeldgeeaaDoor.laid
set_option linter.unusedVariables false
set_option linter.unusedSimpArgs false

/-- A sign that stands in no name. -/
def badC (n : Nat) : Bool := decide ((n < 97 ∨ 122 < n) ∧ (n < 48 ∨ 57 < n) ∧ n ≠ 45 ∧ n ≠ 46 ∧ n ≠ 95)
def nameB (s : List Nat) : Bool := decide (s ≠ [] ∧ s.length ≤ 16 ∧ s.any badC = false)
section
variable {S : AS}
def nameC (n : Nat) : Bool := (decide ((n : Int) < 97) || decide (122 < (n : Int))) && (decide ((n : Int) < 48) || decide (57 < (n : Int))) && !decide ((n : Int) = 45) && !decide ((n : Int) = 46) && !decide ((n : Int) = 95)
theorem nameC_bad (n : Nat) : nameC n = badC n := by
  unfold nameC badC
  rw [Bool.eq_iff_iff]
  simp only [Bool.and_eq_true, Bool.or_eq_true, Bool.not_eq_true', decide_eq_true_eq, decide_eq_false_iff_not]
  omega
theorem bad29 (n : Nat) : CallW C0 36 [.int .u8 n] S fun r T => r = .bool (badC n) ∧ Sub S T := by
  rw [← nameC_bad]
  refine enterW (pu0 _) (pr0 _ rfl) e_fn29 rfl e_ok29 (by simp) fun F hn hs => ?_
  have s0 := hs 0
  clear hs
  simp only [List.getElem?_cons_zero, Option.getD_some] at s0
  unfold nameC
  by_cases a1 : (n : Int) < 97 <;> by_cases a2 : 122 < (n : Int) <;> by_cases a3 : (n : Int) < 48 <;> by_cases a4 : 57 < (n : Int) <;> by_cases a5 : (n : Int) = 45 <;> by_cases a6 : (n : Int) = 46 <;> by_cases a7 : (n : Int) = 95 <;>
    first | (exfalso; omega) | simp [s0, a1, a2, a3, a4, a5, a6, a7, Sub.refl]
theorem idx48 {u : AV} {l : List Nat} {f : FuncId} {caps : List AV} {P : Nat → Bool} (h : Sl S u 1 (bytA l)) (hb : l.length ≤ 9223372036854775807) (hf : C0.exts.get f = none)
    (hc : ∀ T, Sub S T → ∀ x, x ∈ l → CallW C0 f (.int .u8 (x : Int) :: caps) T fun v T' => v = .bool (P x) ∧ Sub T T') :
    CallW C0 50 [u, .func (.func f) [] caps] S fun v T => v = .int .i64 (idxI P l) ∧ Sub S T := by
  refine enterW (pu0 _) (pr0 _ rfl) e_fn48 rfl e_ok48 (by simp) fun F hn hs => ?_
  have s0 := hs 0
  have s1 := hs 1
  clear hs
  simp only [List.getElem?_cons_zero, List.getElem?_cons_succ, Option.getD_some] at s0 s1
  have u1 := h.sl
  have u2 : sLen u = l.length := by rw [h.len1, bytA_len]
  simp [s0, s1, u1, u2]
  refine loopP_of (idxH S u (.func (.func f) [] caps) l P) l.length (idxH_mk 0 (Sub.refl S) (by simp [s0]) (by simp [s1]) (by simp) (by simp) (Nat.zero_le _) rfl (by simp)) ?_
  rintro k F' S' hn' ⟨i, hsub, t0, t1, t7, t8, hi, hk, ha⟩
  clear hn' s0 s1 hn
  by_cases hi' : i < l.length
  · have hx : l[i]? = some l[i] := List.getElem?_eq_getElem hi'
    have hl := loadT_sl (cx := C0) (e := 5) (h.toSub hsub) (k := i) (x := .int .u8 (l[i] : Int)) (by unfold bytA; rw [List.getElem?_map, hx]; rfl) e_ag5
    obtain ⟨v, T', ⟨rfl, hs⟩, e⟩ := (hc S' hsub l[i] (List.getElem_mem hi')).ex
    cases hp : P l[i] with
    | true => simp [t0, t1, t7, t8, u1, u2, hi', hl, e, hp, hf, hsub.trans hs, idxI_at hx hp ha]
    | false =>
      simp [t0, t1, t7, t8, u1, u2, hi', hl, e, hp, hf]
      exact ⟨l.length - (i + 1), by omega, idxH_mk (i + 1) (hsub.trans hs) (by simp [t0]) (by simp [t1]) (by simp [t7]) (by simp [wrap_succ (show i < 9223372036854775807 by omega)]) hi' rfl (take_step hx hp ha)⟩
  · have hall : ∀ x, x ∈ l → P x = false := fun x hx => ha x (by rw [List.take_of_length_le (by omega)]; exact hx)
    simp [t7, t8, hi', idxI_none hall, hsub]
theorem con30 {u : AV} {l : List Nat} {f : FuncId} {caps : List AV} {P : Nat → Bool} (h : Sl S u 1 (bytA l)) (hb : l.length ≤ 9223372036854775807) (hf : C0.exts.get f = none)
    (hc : ∀ T, Sub S T → ∀ x, x ∈ l → CallW C0 f (.int .u8 (x : Int) :: caps) T fun v T' => v = .bool (P x) ∧ Sub T T') :
    CallW C0 37 [u, .func (.func f) [] caps] S fun v T => v = .bool (l.any P) ∧ Sub S T := by
  obtain ⟨v, T, ⟨rfl, hs⟩, e⟩ := (idx48 h hb hf hc).ex
  refine enterW (pu0 _) (pr0 _ rfl) e_fn30 rfl e_ok30 (by simp) fun F hn hs => ?_
  have s0 := hs 0
  have s1 := hs 1
  clear hs
  simp only [List.getElem?_cons_zero, List.getElem?_cons_succ, Option.getD_some] at s0 s1
  simp [s0, s1, e, ex0, hs, idxI_any]
theorem name13 (s : List Nat) (hs : ∀ c, c ∈ s → c < 256) : CallW C0 17 [.str s] S fun r T => r = .bool (nameB s) ∧ Sub S T := by
  have hs1 : Sub S ⟨S.h.set S.next (.row (bytA s) 0 0 false 5), S.next + 1⟩ := sub1
  refine enterW (pu0 _) (pr0 _ rfl) e_fn13 rfl e_ok13 (by simp) fun F hn hs => ?_
  have s0 := hs 0
  clear hs
  simp only [List.getElem?_cons_zero, Option.getD_some] at s0
  unfold nameB
  by_cases h1 : s = []
  · subst h1
    simp [s0, eqS_eq, Sub.refl]
  by_cases h2 : (s.length : Int) ≤ 16
  · have h2' : s.length ≤ 16 := by omega
    obtain ⟨r, T, ⟨rfl, hT⟩, e⟩ := (con30 (f := 36) (caps := []) (P := badC) (sl_bytes (S := S) s) (by omega) (ex0 _ rfl rfl rfl) (fun T hT x hx => bad29 x)).ex
    have tb := fun (F : Fr) (dst : Option Tmp) (ty : TypeId) (pos : String) (af : Array Edge) (gd : Option (Nat × Bool)) (x : Tmp) (a : sl F x = .str s) => aop_bytes (cx := C0) (F := F) (S := S) (dst := dst) (ty := ty) (pos := pos) (af := af) (gd := gd) (a := 9) (b := 43) ((eval_tmp F x).trans a) strOf_str sT9 bE56
    cases ha : s.any badC <;> rw [ha] at e <;> simp [s0, eqS_eq, h1, h2, h2', tb, e, ex0, hs1.trans hT, len_str und9, ha]
  · have h2' : ¬ s.length ≤ 16 := by omega
    simp [s0, eqS_eq, h1, h2, h2', Sub.refl, len_str und9]
def rnH (S : AS) (s : List Nat) (k : Nat) (F' : Fr) (S' : AS) : Prop := S' = S ∧ ∃ i : Nat, (∀ x, x ∈ s.take i → badC x = false) ∧ sl F' 0 = .str s ∧ sl F' 3 = .int .i64 i ∧ i ≤ s.length ∧ k = s.length - i
end
end Go.Proofs.YtpglcebeldgeeaaDoor.val

namespace Go.Proofs.YtpglcebeldgeeaaDoor.val
open Go Go.Am Go.Proofs.YtpglcebeldgeeaaDoor.laid
set_option linter.unusedVariables false
set_option linter.unusedSimpArgs false

def okAtt (a : Att) : Prop := (∀ c, c ∈ a.name → c < 256) ∧ a.name.length ≤ 9223372036854775807 ∧ okV2 a.val
structure AttsAt (S : AS) (u : AV) (l : List Att) : Prop where
  sl : Sl S u 5 (l.flatMap encA)
  le : l.length ≤ 2513169434843
  ok : ∀ a, a ∈ l → okAtt a
theorem AttsAt.sub {S T : AS} {u : AV} {l : List Att} (h : AttsAt S u l) (k : Sub S T) : AttsAt T u l := ⟨h.sl.toSub k, h.le, h.ok⟩
/-- The attribute at a place may stand there. -/
noncomputable def okAt (l : List Att) (i : Nat) : Bool := match l[i]? with
  | none => true
  | some a => nameB a.name && mayV a.val && (match i with | 0 => true | j + 1 => (match l[j]? with | some b => ltS b.name a.name | none => true))
noncomputable def mayL (l : List Att) : Bool := (List.range l.length).all (okAt l)
noncomputable def evMay (key : List Nat) (l : List Att) : Bool := mayL l && decide (key.length ≤ 16) && decide (l.length ≤ 8)
theorem mayL_bad {l : List Att} {i : Nat} (hi : i < l.length) (h : okAt l i = false) : mayL l = false := by
  unfold mayL
  rw [List.all_eq_false]
  exact ⟨i, List.mem_range.2 hi, by simp [h]⟩
theorem mayL_good {l : List Att} (h : ∀ i, i < l.length → okAt l i = true) : mayL l = true := by
  unfold mayL
  rw [List.all_eq_true]
  exact fun i hi => h i (List.mem_range.1 hi)
theorem okAt_0 {l : List Att} {a : Att} (h : l[0]? = some a) : okAt l 0 = (nameB a.name && mayV a.val) := by unfold okAt; rw [h]; simp
theorem okAt_s {l : List Att} {j : Nat} {a b : Att} (h : l[j + 1]? = some a) (hb : l[j]? = some b) : okAt l (j + 1) = (nameB a.name && mayV a.val && ltS b.name a.name) := by unfold okAt; rw [h]; simp only [hb]
theorem okAt_n {l : List Att} {i : Nat} {a : Att} (h : l[i]? = some a) (hn : nameB a.name = false) : okAt l i = false := by unfold okAt; rw [h]; simp [hn]
theorem okAt_v {l : List Att} {i : Nat} {a : Att} (h : l[i]? = some a) (hn : mayV a.val = false) : okAt l i = false := by unfold okAt; rw [h]; simp [hn]
theorem ok_step {l : List Att} {i : Nat} (h : ∀ j, j < i → okAt l j = true) (hi : okAt l i = true) : ∀ j, j < i + 1 → okAt l j = true := fun j hj => by
  by_cases e : j = i
  · rw [e]; exact hi
  · exact h j (by omega)
theorem nt10e : Tryd.f6.ntmps = 50 := by kernel_rfl
@[simp] theorem binS_geq {a b : List Nat} : binS .geq a b = some (.bool (!ltS a b)) := rfl
def mayH (S1 : AS) (b : Nat) (u : AV) (l : List Att) (k : Nat) (F' : Fr) (S' : AS) : Prop :=
  ∃ i : Nat, Sub S1 S' ∧ (∀ j, j < i → okAt l j = true) ∧ sl F' 1 = .ptr b 0 0 2 ∧ sl F' 6 = u ∧ sl F' 7 = .int .i64 l.length ∧ sl F' 8 = .int .i64 i ∧ i ≤ l.length ∧ k = l.length - i
theorem mayH_mk {S1 : AS} {b : Nat} {u : AV} {l : List Att} {k : Nat} {F' : Fr} {S' : AS} (i : Nat) (h1 : Sub S1 S') (h2 : ∀ j, j < i → okAt l j = true) (h3 : sl F' 1 = .ptr b 0 0 2) (h4 : sl F' 6 = u) (h5 : sl F' 7 = .int .i64 l.length) (h6 : sl F' 8 = .int .i64 i) (h7 : i ≤ l.length) (h8 : k = l.length - i) : mayH S1 b u l k F' S' :=
  ⟨i, h1, h2, h3, h4, h5, h6, h7, h8⟩
section
variable {S : AS}
set_option maxRecDepth 20000 in
set_option maxHeartbeats 1000000 in
theorem evMay10 {key : List Nat} {u : AV} {l : List Att} (hu : AttsAt S u l) : CallW C0 6 [.agg [.str key, u]] S fun r T => r = .bool (evMay key l) ∧ Sub S T := by
  have hS1 : Sub S ⟨S.h.set S.next (.row [.str key, u] 0 0 false 24), S.next + 1⟩ := sub1
  have u1 := hu.sl.sl
  have u2 := hu.sl.len_flat encA_len (by omega)
  have uk := okW_sl hu.sl
  have hle := hu.le
  have hold := hu.sl.old
  refine enterW (pu0 _) (pr0 _ rfl) e_fn10 rfl e_ok10 (by simp) fun F hn hs' => ?_
  rw [nt10e] at hn
  have s0 := hs' 0
  clear hs'
  simp only [List.getElem?_cons_zero, Option.getD_some] at s0
  simp [s0, u1, u2, uk, hu.sl.cells]
  refine loopP_of (mayH ⟨S.h.set S.next (.row [.str key, u] 0 0 false 24), S.next + 1⟩ S.next u l) l.length (mayH_mk 0 (Sub.refl _) (fun j hj => by omega) (by simp) (by simp) (by simp) (by simp) (Nat.zero_le _) rfl) ?_
  rintro k F' S' hn' ⟨i, q2, qa, t1, t6, t7, t8, hi, hk'⟩
  have hn2 : F'.n = 50 := by rw [hn']; simp [hn]
  clear hn' hn s0
  have hSn : S.next + 1 ≤ S'.next := q2.next
  have gb : S'.h.get S.next = some (.row [.str key, u] 0 0 false 24) := by rw [q2.h _ (Nat.lt_succ_self _)]; exact get_set_same _ _ _
  by_cases hi' : i < l.length
  · have hx : l[i]? = some l[i] := List.getElem?_eq_getElem hi'
    have huS := hu.sub (hS1.trans q2)
    have hlo := loadT_el (cx := C0) (e := 38) huS.sl encA_len (by omega) hx e_ag34 e_sz34
    have hoka := hu.ok _ (List.getElem_mem hi')
    have hbad : okAt l i = false → evMay key l = false := fun h => by unfold evMay; rw [mayL_bad hi' h]; rfl
    generalize l[i] = a at hx hlo hoka
    have hZ : Sub S' ⟨(S'.h.set S'.next (.row [.str [], .int .i64 0, .int .i64 0, .str [], .bool false] 0 0 false 38)).set S'.next (.row (encA a) 0 0 false 38), S'.next + 1⟩ := sub1s
    obtain ⟨r, T1, ⟨rfl, hT1⟩, e1⟩ := (name13 (S := ⟨(S'.h.set S'.next (.row [.str [], .int .i64 0, .int .i64 0, .str [], .bool false] 0 0 false 38)).set S'.next (.row (encA a) 0 0 false 38), S'.next + 1⟩) a.name hoka.1).ex
    obtain ⟨r, T2, ⟨rfl, hT2⟩, e2⟩ := (may10 (S := T1) a.val).ex
    have hT1n : S'.next + 1 ≤ T1.next := hT1.next
    have hT2n := hT2.next
    have c0 : (⟨(S'.h.set S'.next (.row [.str [], .int .i64 0, .int .i64 0, .str [], .bool false] 0 0 false 38)).set S'.next (.row (encA a) 0 0 false 38), S'.next + 1⟩ : AS).h.get S'.next = some (.row (encA a) 0 0 false 38) := get_set_same _ _ _
    have c1 : T1.h.get S'.next = some (.row (encA a) 0 0 false 38) := by rw [hT1.h _ (Nat.lt_succ_self _)]; exact c0
    have c2 : T2.h.get S'.next = some (.row (encA a) 0 0 false 38) := by rw [hT2.h _ (by omega)]; exact c1
    have hZ1 := hZ.trans hT1
    have hZ2 := hZ1.trans hT2
    have gb2 : T2.h.get S.next = some (.row [.str key, u] 0 0 false 24) := by rw [hZ2.h _ (by omega)]; exact gb
    have gb1 : T1.h.get S.next = some (.row [.str key, u] 0 0 false 24) := by rw [hZ1.h _ (by omega)]; exact gb
    have hS2 := (hS1.trans q2).trans hZ2
    have hS3 := (hS1.trans q2).trans hZ1
    have hwi := wrap_succ (i := i) (by omega)
    simp only [encA, encV] at hlo e1 e2 c0 c1 c2
    simp [t1, t6, t7, t8, u1, u2, hi', hlo, hn2]
    refine draws [.p, .r 0 0, .e [], .p, .p, .p, .r 0 0, .e [], .p, .p, .p, .p, .p, .p, .p, .r 0 0, .p, .p, .p, .p, .r 0 0, .p, .r 0 0, .p, .p, .p] (n := 50) (by kernel_rfl) (by simp [hn2]) ?_
    cases hb1 : nameB a.name with
    | false =>
      rw [hb1] at e1
      rw [hbad (okAt_n hx hb1)]
      simp [t1, t6, t7, t8, e1, ex0, c1, gb1]
      exact hS3
    | true =>
      rw [hb1] at e1
      cases hb2 : mayV a.val with
      | false =>
        rw [hb2] at e2
        rw [hbad (okAt_v hx hb2)]
        simp [t1, t6, t7, t8, e1, e2, ex0, c1, c2, gb1, gb2]
        exact hS2
      | true =>
        rw [hb2] at e2
        by_cases h0 : i = 0
        · have h0' : (i : Int) = 0 := by omega
          subst h0
          have hst := ok_step qa (by rw [okAt_0 hx, hb1, hb2]; rfl)
          simp at t8 hwi
          simp [t1, t6, t7, t8, e1, e2, ex0, c1, c2, gb1, gb2]
          exact ⟨l.length - (0 + 1), by omega, mayH_mk (0 + 1) (q2.trans hZ2) hst (by simp [t1]) (by simp [t6]) (by simp [t7]) (by simp; decide) hi' rfl⟩
        · obtain ⟨j, rfl⟩ : ∃ j, i = j + 1 := ⟨i - 1, by omega⟩
          have hj : j < l.length := by omega
          have hxj : l[j]? = some l[j] := List.getElem?_eq_getElem hj
          have hu2 := hu.sub hS2
          have hpp := isP_pAt (k := j) u1 (by rw [u2]; exact hj)
          have hlp := loadT_elf (cx := C0) (e := 9) (o := 0) (y := .str l[j].name) hu2.sl encA_len (by omega) hxj rfl e_ag9
          have hwj : IntKind.i64.wrap ((j : Int) + 1 - 1) = (j : Int) := by
            rw [show ((j : Int) + 1 - 1) = (j : Int) by omega]; exact wrap_nat (by omega)
          have hwj' : IntKind.i64.wrap (j : Int) = (j : Int) := wrap_nat (by omega)
          have hgt : (0 : Int) < (j : Int) + 1 := by omega
          have hoks := okAt_s hx hxj
          rw [hb1, hb2] at hoks
          generalize l[j] = b at hlp hoks hxj
          simp at hwi t8
          cases hlt : ltS b.name a.name with
          | true =>
            rw [hlt] at hoks
            simp [t1, t6, t7, t8, e1, e2, ex0, c1, c2, gb1, gb2, h0, hgt, hwj, hwj', u1, u2, uk, hj, fieldP_add hpp, hlp, hlt, hwi]
            exact ⟨l.length - (j + 1 + 1), by omega, mayH_mk (j + 1 + 1) (q2.trans hZ2) (ok_step qa hoks) (by simp [t1]) (by simp [t6]) (by simp [t7]) (by simp [hwi]) hi' rfl⟩
          | false =>
            rw [hlt] at hoks
            rw [hbad hoks]
            simp [t1, t6, t7, t8, e1, e2, ex0, c1, c2, gb1, gb2, h0, hgt, hwj, hwj', u1, u2, uk, hj, fieldP_add hpp, hlp, hlt, hwi]
            exact hS2
  · have hie : i = l.length := by omega
    subst hie
    have hsub := hS1.trans q2
    have hml := mayL_good qa
    unfold evMay
    rw [hml]
    by_cases k1 : key.length ≤ 16
    · have k1' : (key.length : Int) ≤ 16 := by omega
      by_cases k2 : l.length ≤ 8
      · have k2' : (l.length : Int) ≤ 8 := by omega
        simp [t1, t6, t7, t8, gb, k1, k2, k1', k2', u1, u2, uk, len_str und9]
        exact hsub
      · have k2' : ¬ (l.length : Int) ≤ 8 := by omega
        simp [t1, t6, t7, t8, gb, k1, k2, k1', k2', u1, u2, uk, len_str und9]
        exact hsub
    · have k1' : ¬ (key.length : Int) ≤ 16 := by omega
      simp [t1, t6, t7, t8, gb, k1, k1', u1, u2, uk, len_str und9]
      exact hsub
def rmH (S1 : AS) (b : Nat) (l : List Att) (k : Nat) (F' : Fr) (S' : AS) : Prop :=
  ∃ i : Nat, Sub S1 S' ∧ (∀ j, j < i → okAt l j = true) ∧ sl F' 1 = .ptr b 0 0 2 ∧ sl F' 3 = .int .i64 i ∧ F'.n = 58 ∧ i ≤ l.length ∧ k = l.length - i
theorem rmH_mk {S1 : AS} {b : Nat} {l : List Att} {k : Nat} {F' : Fr} {S' : AS} (i : Nat) (h1 : Sub S1 S') (h2 : ∀ j, j < i → okAt l j = true) (h3 : sl F' 1 = .ptr b 0 0 2) (h4 : sl F' 3 = .int .i64 i) (h5 : F'.n = 58) (h7 : i ≤ l.length) (h8 : k = l.length - i) : rmH S1 b l k F' S' :=
  ⟨i, h1, h2, h3, h4, h5, h7, h8⟩
end
end Go.Proofs.YtpglcebeldgeeaaDoor.val

namespace Go.Proofs.YtpglcebeldgeeaaDoor.val
open Go Go.Am Go.Proofs.YtpglcebeldgeeaaDoor.laid
set_option linter.unusedVariables false
set_option linter.unusedSimpArgs false

def getA (l : List Att) (n : List Nat) : Option ValV := (l.find? fun a => decide (a.name = n)).map Att.val
theorem eqS_dec (a b : List Nat) : eqS a b = decide (a = b) := by
  rw [Bool.eq_iff_iff]; simp [eqS_eq]
theorem getA_none {l : List Att} {n : List Nat} (h : idxI (fun a : Att => decide (a.name = n)) l < 0) : getA l n = none := by
  unfold idxI at h
  cases hf : l.findIdx? (fun a : Att => decide (a.name = n)) with
  | none =>
    have := List.findIdx?_eq_none_iff.1 hf
    unfold getA
    rw [List.find?_eq_none.2 (fun x hx => by simp [this x hx])]
    rfl
  | some i => rw [hf] at h; simp at h; omega
theorem getA_at {l : List Att} {n : List Nat} {i : Nat} {a : Att} (hx : l[i]? = some a) (hp : a.name = n) (ha : ∀ x, x ∈ l.take i → decide (x.name = n) = false) : getA l n = some a.val := by
  obtain ⟨hi, rfl⟩ := List.getElem?_eq_some_iff.1 hx
  have hfi : l.find? (fun a : Att => decide (a.name = n)) = some l[i] := List.find?_eq_some_iff_getElem.2 ⟨by simpa using hp, i, hi, rfl, fun j hj => by
    have := ha l[j] (List.mem_take_iff_getElem.2 ⟨j, by omega, rfl⟩)
    simp [this]⟩
  unfold getA
  rw [hfi]
  rfl
theorem getA_out {l : List Att} {n : List Nat} (h : ∀ x, x ∈ l → decide (x.name = n) = false) : getA l n = none := by
  unfold getA
  rw [List.find?_eq_none.2 (fun x hx => by simp [h x hx])]
  rfl
theorem getA_some {l : List Att} {n : List Nat} (h : ¬ idxI (fun a : Att => decide (a.name = n)) l < 0) : ∃ (i : Nat) (a : Att), idxI (fun a : Att => decide (a.name = n)) l = i ∧ l[i]? = some a ∧ getA l n = some a.val := by
  unfold idxI at h ⊢
  cases hf : l.findIdx? (fun a : Att => decide (a.name = n)) with
  | none => rw [hf] at h; exact absurd (by decide) h
  | some i =>
    obtain ⟨hi, hp, ha⟩ := List.findIdx?_eq_some_iff_getElem.1 hf
    refine ⟨i, l[i], rfl, List.getElem?_eq_getElem hi, ?_⟩
    have hfi : l.find? (fun a : Att => decide (a.name = n)) = some l[i] := List.find?_eq_some_iff_getElem.2 ⟨hp, i, hi, rfl, fun j hj => by simpa using ha j hj⟩
    unfold getA
    rw [hfi]
    rfl
/-- What Get tells. -/
def getV (o : Option ValV) : AV := .tuple [.agg (encV (o.getD zeroV)), .bool o.isSome]
section
variable {S : AS}
theorem get25 (a : Att) (n : List Nat) (id : Nat) (hid : S.h.get id = some (.row [.str n] 0 0 false 9)) (hlt : id < S.next) :
    CallW C0 30 [.agg (encA a), .ptr id 0 0 1] S fun v T => v = .bool (decide (a.name = n)) ∧ Sub S T := by
  refine enterW (pu0 _) (pr0 _ rfl) e_fn25 rfl e_ok25 (by simp) fun F hn hs => ?_
  have s0 := hs 0
  have s1 := hs 1
  clear hs
  simp only [List.getElem?_cons_zero, List.getElem?_cons_succ, Option.getD_some, encA, encV] at s0 s1
  simp [s0, s1, hid, ne_lt hlt, sub1, eqS_dec]
theorem idx24 {u : AV} {l : List Att} {f : FuncId} {caps : List AV} {P : Att → Bool} (h : Sl S u 5 (l.flatMap encA)) (hb : l.length ≤ 9223372036854775807) (hf : C0.exts.get f = none)
    (hc : ∀ T, Sub S T → ∀ x, x ∈ l → CallW C0 f (.agg (encA x) :: caps) T fun v T' => v = .bool (P x) ∧ Sub T T') :
    CallW C0 29 [u, .func (.func f) [] caps] S fun v T => v = .int .i64 (idxI P l) ∧ Sub S T := by
  refine enterW (pu0 _) (pr0 _ rfl) e_fn24 rfl e_ok24 (by simp) fun F hn hs => ?_
  have s0 := hs 0
  have s1 := hs 1
  clear hs
  simp only [List.getElem?_cons_zero, List.getElem?_cons_succ, Option.getD_some] at s0 s1
  have u1 := h.sl
  have u2 := h.len_flat encA_len (by omega)
  simp [s0, s1, u1, u2]
  refine loopP_of (idxH S u (.func (.func f) [] caps) l P) l.length (idxH_mk 0 (Sub.refl S) (by simp [s0]) (by simp [s1]) (by simp) (by simp) (Nat.zero_le _) rfl (by simp)) ?_
  rintro k F' S' hn' ⟨i, hsub, t0, t1, t7, t8, hi, hk, ha⟩
  clear hn' s0 s1 hn
  by_cases hi' : i < l.length
  · have hx : l[i]? = some l[i] := List.getElem?_eq_getElem hi'
    have hl := loadT_el (cx := C0) (e := 38) (h.toSub hsub) encA_len (by omega) hx e_ag34 e_sz34
    obtain ⟨v, T', ⟨rfl, hs⟩, e⟩ := (hc S' hsub l[i] (List.getElem_mem hi')).ex
    cases hp : P l[i] with
    | true => simp [t0, t1, t7, t8, u1, u2, hi', hl, e, hp, hf, hsub.trans hs, idxI_at hx hp ha]
    | false =>
      simp [t0, t1, t7, t8, u1, u2, hi', hl, e, hp, hf]
      exact ⟨l.length - (i + 1), by omega, idxH_mk (i + 1) (hsub.trans hs) (by simp [t0]) (by simp [t1]) (by simp [t7]) (by simp [wrap_succ (show i < 9223372036854775807 by omega)]) hi' rfl (take_step hx hp ha)⟩
  · have hall : ∀ x, x ∈ l → P x = false := fun x hx => ha x (by rw [List.take_of_length_le (by omega)]; exact hx)
    simp [t7, t8, hi', idxI_none hall, hsub]
theorem get8 {u : AV} {l : List Att} {key n : List Nat} (h : AttsAt S u l) :
    CallW C0 12 [.agg [.str key, u], .str n] S fun v T => v = getV (getA l n) ∧ Sub S T := by
  have hle := h.le
  have h := h.sl
  have hS : Sub S ⟨((S.h.set S.next (.row [.str key, u] 0 0 false 24)).set (S.next + 1) (.row [.str n] 0 0 false 9)).set (S.next + 2) (.row [.int .i64 0, .int .i64 0, .str [], .bool false] 0 0 false 36), S.next + 3⟩ :=
    sub2.set _ _ (Nat.le_add_right _ _) _ (Nat.le_succ _)
  obtain ⟨v, T, ⟨rfl, hT⟩, e⟩ := (idx24 (P := fun a : Att => decide (a.name = n)) (f := 30) (caps := [.ptr (S.next + 1) 0 0 1]) (h.toSub hS) (by omega) (ex0 _ rfl rfl rfl) (fun T hT x hx => get25 x n (S.next + 1)
    (by rw [hT.h _ (by show S.next + 1 < S.next + 3; omega)]; simp only [get_set_ne _ _ (show S.next + 1 ≠ S.next + 2 by omega)]; exact get_set_same _ _ _) (by have := hT.next; exact Nat.lt_of_lt_of_le (by show S.next + 1 < S.next + 3; omega) this))).ex
  have hT2 := Sub.trans hS hT
  have g0 : T.h.get S.next = some (.row [.str key, u] 0 0 false 24) := by
    rw [hT.h _ (by show S.next < S.next + 3; omega)]
    simp only [get_set_ne _ _ (show S.next ≠ S.next + 2 by omega), get_set_ne _ _ (show S.next ≠ S.next + 1 by omega)]; exact get_set_same _ _ _
  have g2 : T.h.get (S.next + 2) = some (.row [.int .i64 0, .int .i64 0, .str [], .bool false] 0 0 false 36) := by
    rw [hT.h _ (by show S.next + 2 < S.next + 3; omega)]; exact get_set_same _ _ _
  have hTn : S.next + 3 ≤ T.next := hT.next
  have hl := h.toSub hT2
  have u1 := h.sl
  have u2 := h.len_flat encA_len (by omega)
  refine enterW (pu0 _) (pr0 _ rfl) e_fn8 rfl e_ok8 (by simp) fun F hn hs => ?_
  have s0 := hs 0
  have s1 := hs 1
  clear hs
  simp only [List.getElem?_cons_zero, List.getElem?_cons_succ, Option.getD_some] at s0 s1
  unfold getV
  by_cases hi : idxI (fun a : Att => decide (a.name = n)) l < 0
  · have hg := getA_none hi
    simp [s0, s1, h.cells, ex0, e, g0, g2, hi, hg, encV, zeroV, bld23z]
    exact hT2.set _ _ (Nat.le_add_right _ _) _ (Nat.le_refl _)
  · obtain ⟨i, a, h1, h2, h3⟩ := getA_some hi
    rw [h1] at e
    have hilt : i < l.length := (List.getElem?_eq_some_iff.1 h2).1
    have hp := isP_pAt (k := i) u1 (by rw [u2]; exact hilt)
    have hld := loadT_ela (cx := C0) (e := 36) (o := 1) (n' := 4) hl encA_len (by omega) h2 (by omega) e_ag32 e_sz32
    simp [encA] at hld
    have hi0 : ¬ ((i : Int) < 0) := by omega
    simp [s0, s1, h.cells, ex0, e, g0, g2, u1, u2, hilt, fieldP_add hp, hld, h3, encV, hi0]
    exact hT2.set _ _ (Nat.le_add_right _ _) _ (Nat.le_refl _)
def rgH (S1 : AS) (b : Nat) (l : List Att) (n : List Nat) (k : Nat) (F' : Fr) (S' : AS) : Prop :=
  S' = S1 ∧ ∃ i : Nat, (∀ x, x ∈ l.take i → decide (x.name = n) = false) ∧ sl F' 2 = .ptr b 0 0 2 ∧ sl F' 4 = .ptr (b + 1) 0 0 4 ∧ sl F' 1 = .str n ∧ sl F' 6 = .int .i64 i ∧ i ≤ l.length ∧ k = l.length - i
theorem rgH_mk {S1 : AS} {b : Nat} {l : List Att} {n : List Nat} {k : Nat} {F' : Fr} (i : Nat) (h1 : ∀ x, x ∈ l.take i → decide (x.name = n) = false) (h2 : sl F' 2 = .ptr b 0 0 2) (h3 : sl F' 4 = .ptr (b + 1) 0 0 4) (h4 : sl F' 1 = .str n) (h5 : sl F' 6 = .int .i64 i) (h6 : i ≤ l.length) (h7 : k = l.length - i) : rgH S1 b l n k F' S1 := ⟨rfl, i, h1, h2, h3, h4, h5, h6, h7⟩
end
end Go.Proofs.YtpglcebeldgeeaaDoor.val

namespace Go.Proofs.YtpglcebeldgeeaaDoor.val
open Go Go.Am Go.Proofs.YtpglcebeldgeeaaDoor.laid
set_option linter.unusedVariables false
set_option linter.unusedSimpArgs false

theorem neA (c : Bool) (a b : Att) : binV C0 .neq 38 c (.agg (encA a)) (.agg (encA b)) = some (.bool (!decide (a = b))) := by
  obtain ⟨an, ⟨ak, ai, ax, ab⟩⟩ := a
  obtain ⟨bn, ⟨bk, bi, bx, bb⟩⟩ := b
  have e : eqV C0 38 c (.agg [.str an, .int .i64 ak, .int .i64 ai, .str ax, .bool ab]) (.agg [.str bn, .int .i64 bk, .int .i64 bi, .str bx, .bool bb]) =
      andS (some (eqS an bn)) (andS (andS (some (eqI ak bk)) (andS (some (eqI ai bi)) (andS (some (eqS ax bx)) (andS (some (ab == bb)) (some true))))) (some true)) := by kernel_rfl
  have h : eqV C0 38 c (.agg (encA ⟨an, ⟨ak, ai, ax, ab⟩⟩)) (.agg (encA ⟨bn, ⟨bk, bi, bx, bb⟩⟩)) = some (decide ((⟨an, ⟨ak, ai, ax, ab⟩⟩ : Att) = ⟨bn, ⟨bk, bi, bx, bb⟩⟩)) := by
    simp only [encA, encV]
    rw [e, eqI_eq, eqI_eq]
    simp only [eqS_eq, Att.mk.injEq, ValV.mk.injEq]
    unfold andS
    by_cases h1 : an = bn <;> by_cases h2 : ak = bk <;> by_cases h3 : ai = bi <;> by_cases h4 : ax = bx <;> cases ab <;> cases bb <;> simp [h1, h2, h3, h4]
  simp only [encA, encV] at h ⊢
  unfold binV
  simp [h, oddA]
theorem nt28e : Tryd.f22.ntmps = 26 := by kernel_rfl
/-- The head of a round of slices.Equal. -/
def eqlH (S : AS) (u v : AV) (l m : List Att) (k : Nat) (F' : Fr) (S' : AS) : Prop :=
  ∃ i : Nat, S' = S ∧ sl F' 0 = u ∧ sl F' 1 = v ∧ sl F' 12 = .int .i64 l.length ∧ sl F' 13 = .int .i64 i ∧ i ≤ l.length ∧ k = l.length - i ∧ l.take i = m.take i
theorem eqlH_mk {S : AS} {u v : AV} {l m : List Att} {k : Nat} {F' : Fr} (i : Nat) (h2 : sl F' 0 = u) (h3 : sl F' 1 = v) (h4 : sl F' 12 = .int .i64 l.length) (h5 : sl F' 13 = .int .i64 i) (h6 : i ≤ l.length) (h7 : k = l.length - i) (h8 : l.take i = m.take i) : eqlH S u v l m k F' S :=
  ⟨i, rfl, h2, h3, h4, h5, h6, h7, h8⟩
theorem equal {S : AS} {u v : AV} {l m : List Att} (hl : AttsAt S u l) (hm : AttsAt S v m) {Q : AV → AS → Prop} : CallW C0 22 [u, v] S Q = Q (.bool (decide (l = m))) S := by
  refine CallW.eq (enterW (pu0 _) (pr0 _ rfl) e_fn28 rfl e_ok28 (by simp) fun F hn hs => ?_)
  rw [nt28e] at hn
  have s0 := hs 0
  have s1 := hs 1
  clear hs
  simp only [List.getElem?_cons_zero, List.getElem?_cons_succ, Option.getD_some] at s0 s1
  have u1 := hl.sl.sl
  have v1 := hm.sl.sl
  have u2 := hl.sl.len_flat encA_len (by omega)
  have v2 := hm.sl.len_flat encA_len (by omega)
  have hle := hl.le
  by_cases hlen : l.length = m.length
  · simp [s0, s1, u1, v1, u2, v2, hlen]
    refine loopP_of (eqlH S u v l m) l.length (eqlH_mk 0 (by simp [s0]) (by simp [s1]) (by simp [hlen]) (by simp) (Nat.zero_le _) rfl (by simp)) ?_
    rintro k F' S' hn' ⟨i, rfl, t0, t1, t12, t13, hi, hk, ha⟩
    have hn2 : F'.n = 26 := by rw [hn']; simp [hn]
    clear hn' s0 s1 hn
    by_cases hi' : i < l.length
    · have hi2 : i < m.length := by omega
      have hx := loadT_el (cx := C0) (e := 38) hl.sl encA_len (by omega) (List.getElem?_eq_getElem hi') e_ag34 e_sz34
      have hy := loadT_el (cx := C0) (e := 38) hm.sl encA_len (by omega) (List.getElem?_eq_getElem hi2) e_ag34 e_sz34
      have bx : baseL (encA l[i]) = true := by simp [encA, encV, baseL]
      have bY : baseL (encA m[i]) = true := by simp [encA, encV, baseL]
      simp [t0, t1, t12, t13, hi', hn2]
      refine still_ok (n := 26) (by kernel_rfl) (by simp [hn2]) ?_
      by_cases hc : l[i] = m[i]
      · simp [t0, t1, t12, t13, u1, u2, v1, v2, hi', hi2, hx, hy, neA, hc, hl.sl.ok, hm.sl.ok, bY]
        exact ⟨l.length - (i + 1), by omega, eqlH_mk (i + 1) (by simp [t0]) (by simp [t1]) (by simp [t12]) (by simp [wrap_succ (show i < 9223372036854775807 by omega)]) hi' rfl (take_more ha hi' hi2 hc)⟩
      · have hne : ¬ l = m := by rintro rfl; exact hc rfl
        simp [t0, t1, t12, t13, u1, u2, v1, v2, hi', hi2, hx, hy, neA, hc, hl.sl.ok, hm.sl.ok, bx, bY, hne]
    · rw [List.take_of_length_le (by omega), List.take_of_length_le (by omega)] at ha
      subst ha
      simp [t12, t13, hi']
  · have hlen' : ¬ ((l.length : Int) = m.length) := by omega
    have hne : ¬ l = m := fun e => hlen (by rw [e])
    simp [s0, s1, u1, v1, u2, v2, hlen', hne]
theorem evSame12 {S : AS} {u v : AV} {l m : List Att} {a b : List Nat} (hl : AttsAt S u l) (hm : AttsAt S v m) : CallW C0 9 [.agg [.str a, u], .agg [.str b, v]] S fun r T => r = .bool (decide (a = b) && decide (l = m)) ∧ Sub S T := by
  refine enterW (pu0 _) (pr0 _ rfl) e_fn12 rfl e_ok12 (by simp) fun F hn hs => ?_
  have s0 := hs 0
  have s1 := hs 1
  clear hs
  simp only [List.getElem?_cons_zero, List.getElem?_cons_succ, Option.getD_some] at s0 s1
  have h2 : Sub S ⟨(S.h.set S.next (.row [.str a, u] 0 0 false 24)).set (S.next + 1) (.row [.str b, v] 0 0 false 24), S.next + 2⟩ := sub2
  have e := fun Q => equal (hl.sub h2) (hm.sub h2) (Q := Q)
  by_cases h : a = b
  · subst h
    simp [s0, s1, hl.sl.cells, hm.sl.cells, eqS_eq, e, ex0, h2]
  · simp [s0, s1, hl.sl.cells, hm.sl.cells, eqS_eq, h, ex0, h2]
theorem nt7e : Tryd.f8.ntmps = 38 := by kernel_rfl
def sm7H (V : AS) (a b : Nat) (l m : List Att) (k : Nat) (F' : Fr) (S' : AS) : Prop :=
  S' = V ∧ ∃ i : Nat, l.take i = m.take i ∧ sl F' 2 = .ptr a 0 0 2 ∧ sl F' 3 = .ptr b 0 0 2 ∧ sl F' 5 = .int .i64 i ∧ F'.n = 38 ∧ i ≤ l.length ∧ k = l.length - i
set_option maxRecDepth 20000 in
theorem same7 {S : AS} {u v : AV} {l m : List Att} {key key' : List Nat} (hu : AttsAt S u l) (hv : AttsAt S v m) : CallW C0 8 [.agg [.str key, u], .agg [.str key', v]] S fun r T => r = .bool (decide (key = key') && decide (l = m)) ∧ Sub S T := by
  have hV : Sub S ⟨(S.h.set S.next (.row [.str key, u] 0 0 false 24)).set (S.next + 1) (.row [.str key', v] 0 0 false 24), S.next + 2⟩ := sub2
  have g1 : (⟨(S.h.set S.next (.row [.str key, u] 0 0 false 24)).set (S.next + 1) (.row [.str key', v] 0 0 false 24), S.next + 2⟩ : AS).h.get S.next = some (.row [.str key, u] 0 0 false 24) := by
    show ((S.h.set _ _).set _ _).get _ = _
    rw [get_set_ne _ _ (by omega), get_set_same]
  have g2 : (⟨(S.h.set S.next (.row [.str key, u] 0 0 false 24)).set (S.next + 1) (.row [.str key', v] 0 0 false 24), S.next + 2⟩ : AS).h.get (S.next + 1) = some (.row [.str key', v] 0 0 false 24) := get_set_same _ _ _
  have hu2 := hu.sub hV
  have hv2 := hv.sub hV
  have u1 := hu.sl.sl
  have u2 := hu.sl.len_flat encA_len (by omega)
  have uc := hu.sl.cells
  have uok := hu.sl.ok
  have v1 := hv.sl.sl
  have v2 := hv.sl.len_flat encA_len (by omega)
  have vc := hv.sl.cells
  have vok := hv.sl.ok
  have hle := hu.le
  refine enterW (pu0 _) (pr0 _ rfl) e_fn7 rfl e_ok7 (by simp) fun F hn hs => ?_
  rw [nt7e] at hn
  have s0 := hs 0
  have s1 := hs 1
  clear hs
  simp only [List.getElem?_cons_zero, List.getElem?_cons_succ, Option.getD_some] at s0 s1
  by_cases hk : key = key'
  · subst hk
    by_cases hlen : l.length = m.length
    · simp [s0, s1, uc, vc, uok, vok, u1, u2, v1, v2, eqS_eq, hlen]
      refine loopP_of (sm7H ⟨(S.h.set S.next (.row [.str key, u] 0 0 false 24)).set (S.next + 1) (.row [.str key, v] 0 0 false 24), S.next + 2⟩ S.next (S.next + 1) l m) l.length ⟨rfl, 0, by simp, by simp, by simp, by simp, by simp [hn], Nat.zero_le _, rfl⟩ ?_
      rintro k F' S' hn' ⟨rfl, i, ha, s2, s3, s5, hn, hi, hk⟩
      clear hn' s0 s1
      by_cases hi' : i < l.length
      · have hi2 : i < m.length := by omega
        have hx : l[i]? = some (l[i]'hi') := List.getElem?_eq_getElem _
        have hy : m[i]? = some (m[i]'hi2) := List.getElem?_eq_getElem _
        have hw := wrap_succ (i := i) (by omega)
        have l1 := loadT_el (cx := C0) (e := 38) hu2.sl encA_len (by omega) hx e_ag34 e_sz34
        have l2 := loadT_el (cx := C0) (e := 38) hv2.sl encA_len (by omega) hy e_ag34 e_sz34
        have bx : baseL (encA l[i]) = true := by simp [encA, encV, baseL]
        have bY : baseL (encA m[i]) = true := by simp [encA, encV, baseL]
        simp [s2, s3, s5, g1, g2, uok, vok, u1, u2, v1, v2, hi', hn]
        refine still_ok (n := 38) (by kernel_rfl) (by simp [hn]) ?_
        by_cases hc : l[i] = m[i]
        · simp [s2, s3, s5, g1, g2, uok, vok, u1, u2, v1, v2, hi', hi2, l1, l2, neA, hc, bY, bx]
          exact ⟨l.length - (i + 1), by omega, rfl, i + 1, take_more ha hi' hi2 hc, by simp [s2], by simp [s3], by simp [hw], by simp [hn], hi', rfl⟩
        · have hne : ¬ l = m := by rintro rfl; exact hc rfl
          simp [s2, s3, s5, g1, g2, uok, vok, u1, u2, v1, v2, hi', hi2, l1, l2, neA, hc, bY, bx, hne, hV]
      · rw [List.take_of_length_le (by omega), List.take_of_length_le (by omega)] at ha
        subst ha
        simp [s2, s3, s5, g1, g2, uok, vok, u1, u2, v1, v2, hi', hn, hV]
    · have hne : ¬ l = m := fun e => hlen (by rw [e])
      have hlen' : ¬ ((l.length : Int) = m.length) := by omega
      simp [s0, s1, uc, vc, uok, vok, u1, u2, v1, v2, eqS_eq, hlen, hlen', hne, hV]
  · simp [s0, s1, uc, vc, uok, vok, u1, u2, v1, v2, eqS_eq, hk, hV]
end Go.Proofs.YtpglcebeldgeeaaDoor.val

namespace Go.Proofs.YtpglcebeldgeeaaDoor.val
open Go Go.Am Go.Proofs.YtpglcebeldgeeaaDoor.laid
set_option linter.unusedVariables false
set_option linter.unusedSimpArgs false

noncomputable def cmpN (a b : List Nat) : Int := if ltS a b then -1 else if a = b then 0 else 1
theorem cmpN_neg (a b : List Nat) : (cmpN a b < 0) ↔ ltS a b = true := by
  unfold cmpN
  cases ltS a b
  · by_cases h : a = b <;> simp [h]
  · simp
/-- An attribute ahead of another. -/
noncomputable def ltA (a b : Att) : Bool := ltS a.name b.name
theorem swoA : Sort.SWO ltA := by
  refine ⟨fun x => ltS_irr _, fun x y z h1 h2 => ltS_trans _ _ _ h1 h2, fun x y z h1 h2 => ?_⟩
  unfold ltA at *
  rcases lt_tri x.name z.name with ⟨h, _, _⟩ | ⟨h, _, _⟩ | ⟨h, _, _⟩
  · exfalso
    rcases lt_tri x.name y.name with ⟨k, _, _⟩ | ⟨k, e, _⟩ | ⟨_, _, k⟩
    · rw [k] at h1; cases h1
    · have : x.name = y.name := by simpa [eqS_eq] using e
      rw [this, h2] at h; cases h
    · have := ltS_trans _ _ _ k h
      rw [h2] at this; cases this
  · exact h
  · exact h
theorem insInner_go (a j : Nat) (d : Array Att) (hj : a < j) (hl : ltA d[j]! d[j - 1]! = true) : Sort.insInner ltA a j d = Sort.insInner ltA a (j - 1) (Sort.swp d j (j - 1)) := by
  obtain ⟨j, rfl⟩ : ∃ k, j = k + 1 := ⟨j - 1, by omega⟩
  rw [Sort.insInner]
  simp only [Nat.add_sub_cancel] at hl ⊢
  rw [if_pos (by simp [hl]; omega)]
theorem insInner_stop (a j : Nat) (d : Array Att) (h : j ≤ a ∨ ltA d[j]! d[j - 1]! = false) : Sort.insInner ltA a j d = d := by
  cases j with
  | zero => rw [Sort.insInner]
  | succ j =>
    rw [Sort.insInner]
    rcases h with h | h
    · rw [if_neg (by simp; omega)]
    · simp only [Nat.add_sub_cancel] at h
      rw [if_neg (by simp [h])]
theorem insInner_size (a : Nat) : ∀ (j : Nat) (d : Array Att), (Sort.insInner ltA a j d).size = d.size
  | 0, d => rfl
  | j + 1, d => by
    rw [Sort.insInner]
    split
    · rw [insInner_size a j]; simp [Sort.swp]
    · rfl
theorem insOuter_go (a b i : Nat) (d : Array Att) (h : i < b) : Sort.insOuter ltA a b i d = Sort.insOuter ltA a b (i + 1) (Sort.insInner ltA a i d) := by rw [Sort.insOuter, if_pos h]
theorem insOuter_stop (a b i : Nat) (d : Array Att) (h : ¬ i < b) : Sort.insOuter ltA a b i d = d := by rw [Sort.insOuter, if_neg h]
/-- All but one block stands. -/
def KeepB (b : Nat) (S T : AS) : Prop := (∀ id, id < S.next → id + 1 ≠ b → T.h.get id = S.h.get id) ∧ S.next ≤ T.next
theorem KeepB.refl (b : Nat) (S : AS) : KeepB b S S := ⟨fun _ _ _ => rfl, Nat.le_refl _⟩
theorem KeepB.trans {b : Nat} {R S T : AS} (h : KeepB b R S) (k : KeepB b S T) : KeepB b R T := ⟨fun id h1 h2 => (k.1 id (Nat.lt_of_lt_of_le h1 h.2) h2).trans (h.1 id h1 h2), Nat.le_trans h.2 k.2⟩
theorem KeepB.of {b : Nat} {S T : AS} (h : Sub S T) : KeepB b S T := ⟨fun id h1 _ => h.h id h1, h.next⟩
section
variable {S : AS}
theorem cmp45 (a b : List Nat) {Q : AV → AS → Prop} : CallW C0 44 [.str a, .str b] S Q = Q (.int .i64 (cmpN a b)) S := by
  refine CallW.eq (enterW (pu0 _) (pr0 _ rfl) e_fn45 rfl e_ok45 (by simp) fun F hn hs => ?_)
  have s0 := hs 0
  have s1 := hs 1
  clear hs
  simp only [List.getElem?_cons_zero, List.getElem?_cons_succ, Option.getD_some] at s0 s1
  unfold cmpN
  cases h1 : ltS a b
  · by_cases h2 : a = b
    · subst h2
      simp [s0, s1, exCmp, ext_cmp, h1, eqS_eq]
    · simp [s0, s1, exCmp, ext_cmp, h1, h2, eqS_eq]
  · simp [s0, s1, exCmp, ext_cmp, h1]
theorem cmp23 (a b : List Nat) {Q : AV → AS → Prop} : CallW C0 28 [.str a, .str b] S Q = Q (.int .i64 (cmpN a b)) S := by
  refine CallW.eq (enterW (pu0 _) (pr0 _ rfl) e_fn23 rfl e_ok23 (by simp) fun F hn hs => ?_)
  have s0 := hs 0
  have s1 := hs 1
  clear hs
  simp only [List.getElem?_cons_zero, List.getElem?_cons_succ, Option.getD_some] at s0 s1
  have e := fun Q => cmp45 a b (S := S) (Q := Q)
  simp [s0, s1, e, ex0]
theorem cmp22 (a b : Att) : CallW C0 27 [.agg (encA a), .agg (encA b)] S fun r T => r = .int .i64 (cmpN a.name b.name) ∧ Sub S T := by
  refine enterW (pu0 _) (pr0 _ rfl) e_fn22 rfl e_ok22 (by simp) fun F hn hs => ?_
  have s0 := hs 0
  have s1 := hs 1
  clear hs
  simp only [List.getElem?_cons_zero, List.getElem?_cons_succ, Option.getD_some, encA, encV] at s0 s1
  have e := fun (S : AS) Q => cmp23 a.name b.name (S := S) (Q := Q)
  simp [s0, s1, e, ex0, sub2]
theorem clone20 {v : AV} {cs : List AV} (h : Sl S v 5 cs) (hf : sLen v ≤ 2513169434843) : CallW C0 25 [v] S fun v' T => Sub S T ∧ Gw T v' 5 38 cs ∧ (bnd v' = 0 ∨ S.next < bnd v') := by
  refine enterW (pu0 _) (pr0 _ rfl) e_fn20 rfl e_ok20 (by simp) fun F hn hs => ?_
  have s0 := hs 0
  clear hs
  simp only [List.getElem?_cons_zero, Option.getD_some] at s0
  have h2 := h.sl
  cases hnil : isNil v with
  | true =>
    obtain ⟨rfl, rfl⟩ := h.isNil hnil
    simp [s0, Sub.refl, Gw.nil, bnd]
  | false =>
    have hx : Sl (⟨S.h.set S.next (.row [] 0 0 false 38), S.next + 1⟩ : AS) v 5 cs := ⟨h2, by rw [rdS_set h.old]; exact h.rd, h.len, Nat.le_succ_of_le h.old⟩
    have hfit : fits (sLen v) 56 = true := by simp [fits, nble]; omega
    have hg0 : Gw (⟨S.h.set S.next (.row [] 0 0 false 38), S.next + 1⟩ : AS) (.slice S.next 0 0 0 0 5 (some 0)) 5 38 [] :=
      ⟨⟨by simp [isSl, capB], by simp [rdS], by simp [sLen], by simp [bnd]⟩, .inr ⟨S.next, 0, 0, 0, 0, some 0, rfl, rfl, Nat.lt_succ_self _, _, 0, 0, get_set_same _ _ _, Nat.le_refl _, rfl⟩⟩
    obtain ⟨v', T, e1, r1, r2, r3, r4, r5', r5, r6⟩ := append_gw (cx := C0) (ts := []) (t := 22) (u := 22) (p := (38, 5, 56)) e_st22 e_un22 rfl hg0 hx (by simpa [sLen] using hfit)
    simp only [List.nil_append] at r1
    have hsub : Sub S T := ⟨fun id hid => (r2 id (by show id < S.next + 1; omega) (by simp [bnd]; omega)).trans (get_set_ne _ _ (by omega)), by have : S.next + 1 ≤ T.next := r3; omega⟩
    simp [s0, h2, hnil, e1, r1.1.np, hsub, r1]
    rcases r5 with r5 | r5
    · rw [r5]; right; simp [bnd]
    · right
      have : S.next + 1 < bnd v' := r5
      omega
/-- What the sort works on. -/
structure SrtAt (S : AS) (v : AV) (d : Array Att) : Prop where
  gw : Gw S v 5 38 (d.toList.flatMap encA)
  le : d.size ≤ 1048576
theorem arr_get {d : Array Att} {i : Nat} (h : i < d.size) : d.toList[i]? = some d[i]! := by
  rw [Array.getElem?_toList, Array.getElem!_eq_getD, Array.getD, dif_pos h]
  exact Array.getElem?_eq_getElem h
theorem SrtAt.ld {v : AV} {d : Array Att} (h : SrtAt S v d) {i : Nat} (hi : i < d.size) : loadT C0 S 38 (pAt v i) = some (.agg (encA d[i]!)) :=
  loadT_el (cx := C0) (e := 38) h.gw.1 encA_len (by omega) (arr_get hi) e_ag34 e_sz34
theorem SrtAt.len {v : AV} {d : Array Att} (h : SrtAt S v d) : sLen v = d.size := by rw [h.gw.1.len_flat encA_len (by omega), Array.length_toList]
theorem SrtAt.keep {v : AV} {d : Array Att} {T : AS} (h : SrtAt S v d) (k : Sub S T) : SrtAt T v d :=
  ⟨h.gw.agree (fun id e => k.h id (by have := h.gw.1.old; omega)) k.next, h.le⟩
theorem SrtAt.swap {v : AV} {d : Array Att} (h : SrtAt S v d) {i j : Nat} (hi : i < d.size) (hj : j < d.size) :
    ∃ T1 T2, wrV S (pAt v i) (encA d[j]!) = some T1 ∧ wrV T1 (pAt v j) (encA d[i]!) = some T2 ∧ SrtAt T2 v (Sort.swp d i j) ∧ KeepB (bnd v) S T2 := by
  obtain ⟨T1, e1, g1, k1, n1⟩ := gw_pute (i := i) h.gw encA_len (by omega) (by rw [Array.length_toList]; exact hi) d[j]!
  obtain ⟨T2, e2, g2, k2, n2⟩ := gw_pute (i := j) g1 encA_len (by omega) (by rw [List.length_set, Array.length_toList]; exact hj) d[i]!
  refine ⟨T1, T2, e1, e2, ⟨?_, by simp [Sort.swp]; exact h.le⟩, ⟨fun id _ h2 => (k2 id h2).trans (k1 id h2), by omega⟩⟩
  have : (Sort.swp d i j).toList = (d.toList.set i d[j]!).set j d[i]! := by simp [Sort.swp]
  rw [this]; exact g2
theorem okW_undef : okW .undef = true := rfl
theorem nt60 : Tryd.f55.ntmps = 53 := by kernel_rfl
def inrH (S0 : AS) (v : AV) (b : Nat) (i : Nat) (d' : Array Att) (k : Nat) (F' : Fr) (S' : AS) : Prop :=
  ∃ (j : Nat) (d : Array Att), SrtAt S' v d ∧ KeepB (bnd v) S0 S' ∧ d.size = d'.size ∧ Sort.insInner ltA 0 j d = Sort.insInner ltA 0 i d' ∧ sl F' 0 = v ∧ sl F' 1 = .int .i64 0 ∧ sl F' 2 = .int .i64 b ∧ sl F' 3 = .func (.func 27) [] [] ∧ sl F' 8 = .int .i64 i ∧ sl F' 9 = .int .i64 j ∧ F'.n = 53 ∧ j ≤ i ∧ k = j
theorem inrH_mk {S0 : AS} {v : AV} {b i k : Nat} {d' : Array Att} {F' : Fr} {S' : AS} (j : Nat) (d : Array Att) (h1 : SrtAt S' v d) (h2 : KeepB (bnd v) S0 S') (h3 : d.size = d'.size) (h4 : Sort.insInner ltA 0 j d = Sort.insInner ltA 0 i d') (h5 : sl F' 0 = v) (h6 : sl F' 1 = .int .i64 0) (h7 : sl F' 2 = .int .i64 b) (h8 : sl F' 3 = .func (.func 27) [] []) (h9 : sl F' 8 = .int .i64 i) (h10 : sl F' 9 = .int .i64 j) (h11 : F'.n = 53) (h12 : j ≤ i) (h13 : k = j) : inrH S0 v b i d' k F' S' :=
  ⟨j, d, h1, h2, h3, h4, h5, h6, h7, h8, h9, h10, h11, h12, h13⟩
def outH (S0 : AS) (v : AV) (d0 : Array Att) (k : Nat) (F' : Fr) (S' : AS) : Prop :=
  ∃ (i : Nat) (d : Array Att), SrtAt S' v d ∧ KeepB (bnd v) S0 S' ∧ d.size = d0.size ∧ Sort.insOuter ltA 0 d0.size i d = Sort.insertionSort ltA d0 0 d0.size ∧ sl F' 0 = v ∧ sl F' 1 = .int .i64 0 ∧ sl F' 2 = .int .i64 d0.size ∧ sl F' 3 = .func (.func 27) [] [] ∧ sl F' 8 = .int .i64 i ∧ F'.n = 53 ∧ k = d0.size + 1 - i
theorem outH_mk {S0 : AS} {v : AV} {d0 : Array Att} {k : Nat} {F' : Fr} {S' : AS} (i : Nat) (d : Array Att) (h1 : SrtAt S' v d) (h2 : KeepB (bnd v) S0 S') (h3 : d.size = d0.size) (h4 : Sort.insOuter ltA 0 d0.size i d = Sort.insertionSort ltA d0 0 d0.size) (h5 : sl F' 0 = v) (h6 : sl F' 1 = .int .i64 0) (h7 : sl F' 2 = .int .i64 d0.size) (h8 : sl F' 3 = .func (.func 27) [] []) (h9 : sl F' 8 = .int .i64 i) (h10 : F'.n = 53) (h11 : k = d0.size + 1 - i) : outH S0 v d0 k F' S' := ⟨i, d, h1, h2, h3, h4, h5, h6, h7, h8, h9, h10, h11⟩
set_option maxRecDepth 20000 in
set_option maxHeartbeats 1000000 in
theorem ins60 {v : AV} {d0 : Array Att} (h : SrtAt S v d0) : CallW C0 55 [v, .int .i64 0, .int .i64 d0.size, .func (.func 27) [] []] S fun r T => r = .tuple [] ∧ SrtAt T v (Sort.insertionSort ltA d0 0 d0.size) ∧ KeepB (bnd v) S T := by
  refine enterW (pu0 _) (pr0 _ rfl) e_fn60 rfl e_ok60 (by simp) fun F hn hs => ?_
  rw [nt60] at hn
  have s0 := hs 0
  have s1 := hs 1
  have s2 := hs 2
  have s3 := hs 3
  clear hs
  simp only [List.getElem?_cons_zero, List.getElem?_cons_succ, Option.getD_some] at s0 s1 s2 s3
  have hv1 := h.gw.1.sl
  have hle := h.le
  simp [s0, s1, s2, s3]
  refine loopP_of (outH S v d0) d0.size (outH_mk 1 d0 h (KeepB.refl _ _) rfl rfl (by simp [s0]) (by simp [s1]) (by simp [s2]) (by simp [s3]) (by simp; decide) (by simp [hn]) (by omega)) ?_
  clear s0 s1 s2 s3 hn h
  rintro k F' S' hn' ⟨i, d, hd, hk, hsz, ho, s0, s1, s2, s3, s8, hn, hkk⟩
  clear hn'
  by_cases hi : i < d0.size
  · have hi' : (i : Int) < (d0.size : Int) := by omega
    rw [insOuter_go _ _ _ _ hi] at ho
    simp [s0, s1, s2, s3, s8, hi, hi']
    refine loopP_of (inrH S v d0.size i d) i (inrH_mk i d hd hk rfl rfl (by simp [s0]) (by simp [s1]) (by simp [s2]) (by simp [s3]) (by simp [s8]) (by simp) (by simp [hn]) (Nat.le_refl _) rfl) ?_
    clear s0 s1 s2 s3 s8 hn hk hd
    rintro k2 F2 S2 hn' ⟨j, d2, hd, hk, hsz2, g4, s0, s1, s2, s3, s8, s9, hn, hji, hk2⟩
    clear hn'
    have hln := hd.len
    have okv := hd.gw.1.ok
    have fin : ∀ F3 S3, KeepB (bnd v) S S3 → SrtAt S3 v d2 → d2 = Sort.insInner ltA 0 i d → sl F3 0 = v → sl F3 1 = .int .i64 0 → sl F3 2 = .int .i64 d0.size → sl F3 3 = .func (.func 27) [] [] → sl F3 8 = .int .i64 ((i : Int) + 1) → F3.n = 53 → ∃ m, m < k ∧ outH S v d0 m F3 S3 := fun F3 S3 a1 a2 a3 a4 a5 a6 a7 a8 a9 =>
      ⟨d0.size + 1 - (i + 1), by omega, outH_mk (i + 1) d2 a2 a1 (by omega) (by rw [a3]; exact ho) a4 a5 a6 a7 (by rw [a8]; simp) a9 rfl⟩
    have hwi := wrap_succ (i := i) (by omega)
    simp [hn]
    refine draws [.p, .p, .p, .p, .p, .p, .p, .p, .r 0 0, .p, .p, .p, .p, .r 0 0, .e [], .p, .p] (n := 53) (by kernel_rfl) (by simp [hn]) ?_
    by_cases hj0 : j = 0
    · subst hj0
      rw [insInner_stop 0 0 d2 (.inl (Nat.le_refl _))] at g4
      simp at s9
      simp [s0, s1, s2, s3, s8, s9, hwi, okW_undef]
      exact fin _ _ hk hd g4 (by simp [s0]) (by simp [s1]) (by simp [s2]) (by simp [s3]) (by simp) (by simp [hn])
    · obtain ⟨j, rfl⟩ : ∃ j', j = j' + 1 := ⟨j - 1, by omega⟩
      have hj2 : j + 1 < d2.size := by omega
      have hj3 : j < d2.size := by omega
      have l1 := hd.ld hj2
      have l2 := hd.ld hj3
      have hpos : (0 : Int) < (j : Int) + 1 := by omega
      have hwj : IntKind.i64.wrap ((j : Int) + 1 - 1) = (j : Int) := by rw [show (j : Int) + 1 - 1 = j by omega]; exact wrap_nat (by omega)
      have hwj' : IntKind.i64.wrap (j : Int) = (j : Int) := wrap_nat (by omega)
      have q0 : (0 : Int) ≤ (j : Int) + 1 := by omega
      have q1 : (j : Int) + 1 < (d2.size : Int) := by omega
      have q2 : ((j : Int) + 1).toNat = j + 1 := by omega
      obtain ⟨r, S3, ⟨rfl, hS3⟩, ec⟩ := (cmp22 (S := S2) d2[j + 1]! d2[j]!).ex
      have hd3 := hd.keep hS3
      have hk3 := hk.trans (KeepB.of hS3)
      simp at s9
      cases hl : ltA d2[j + 1]! d2[j]! with
      | true =>
        have hc : cmpN d2[j + 1]!.name d2[j]!.name < 0 := (cmpN_neg _ _).2 hl
        rw [insInner_go 0 (j + 1) d2 (by omega) (by simpa using hl)] at g4
        obtain ⟨T1, T2, e1, e2, g1, k1⟩ := hd3.swap hj2 hj3
        have l3 := hd3.ld hj2
        have l4 := hd3.ld hj3
        clear hl
        generalize d2[j + 1]! = x at l1 l3 ec e2 hc
        generalize d2[j]! = y at l2 l4 ec e1 hc
        simp only [encA, encV] at l1 l2 l3 l4 ec e1 e2
        simp [s0, s1, s2, s3, s9, hpos, hv1, hln, q0, q1, q2, hj2, hj3, l1, l2, hwj, hwj', ec, ex0, hc, okv, hn]
        refine draws [.p, .p, .p, .p, .p, .p, .p, .p, .p, .r 0 0, .p, .p, .p, .r 0 0, .p, .e [], .p, .e []] (n := 53) (by kernel_rfl) (by simp [hn]) ?_
        simp [s0, s1, s2, s3, s9, hv1, hln, q0, q1, q2, hj2, hj3, l3, l4, hwj, hwj', e1, e2, okv]
        exact ⟨j, by omega, inrH_mk j (Sort.swp d2 (j + 1) j) g1 (hk3.trans k1) (by simp [Sort.swp]; exact hsz2) (by simpa using g4) (by simp [s0]) (by simp [s1]) (by simp [s2]) (by simp [s3]) (by simp [s8]) (by simp) (by simp [hn]) (by omega) rfl⟩
      | false =>
        have hc : ¬ cmpN d2[j + 1]!.name d2[j]!.name < 0 := fun e => by
          have : ltA d2[j + 1]! d2[j]! = true := (cmpN_neg _ _).1 e
          rw [hl] at this; cases this
        rw [insInner_stop 0 (j + 1) d2 (.inr (by simpa using hl))] at g4
        clear hl
        generalize d2[j + 1]! = x at l1 ec hc
        generalize d2[j]! = y at l2 ec hc
        simp only [encA, encV] at l1 l2 ec
        simp [s0, s1, s2, s3, s8, s9, hpos, hv1, hln, q0, q1, q2, hj2, hj3, l1, l2, hwj, hwj', ec, ex0, hc, okv, hwi]
        exact fin _ _ hk3 hd3 g4 (by simp [s0]) (by simp [s1]) (by simp [s2]) (by simp [s3]) (by simp) (by simp [hn])
  · rw [insOuter_stop _ _ _ _ hi] at ho
    have hi' : ¬ (i : Int) < (d0.size : Int) := by omega
    subst ho
    simp [s2, s8, hi, hi']
    exact ⟨hd, hk⟩
end
end Go.Proofs.YtpglcebeldgeeaaDoor.val

namespace Go.Proofs.YtpglcebeldgeeaaDoor.val
open Go Go.Am Go.Proofs.YtpglcebeldgeeaaDoor.laid
set_option linter.unusedVariables false
set_option linter.unusedSimpArgs false

def pdqH (S : AS) (v : AV) (n : Nat) (k : Nat) (F' : Fr) (S' : AS) : Prop := S' = S ∧ sl F' 0 = v ∧ sl F' 1 = .int .i64 0 ∧ sl F' 2 = .int .i64 n ∧ sl F' 4 = .func (.func 27) [] []
section
variable {S : AS}
theorem len44 {u : Nat} (h : u < 18446744073709551616) {Q : AV → AS → Prop} : CallW C0 43 [.int .u64 u] S Q = Q (.int .i64 (Lib.bitLen u : Nat)) S := by
  refine CallW.eq (enterW (pu0 _) (pr0 _ rfl) e_fn44 rfl e_ok44 (by simp) fun F hn hs => ?_)
  have s0 := hs 0
  clear hs
  simp only [List.getElem?_cons_zero, Option.getD_some] at s0
  have e := fun Q => len59 (S := S) h (Q := Q)
  simp [s0, e, ex0]
theorem pdq43 {v : AV} {d : Array Att} (h : SrtAt S v d) (h12 : d.size ≤ 12) (m : Int) : CallW C0 42 [v, .int .i64 0, .int .i64 d.size, .int .i64 m, .func (.func 27) [] []] S fun r T => r = .tuple [] ∧ SrtAt T v (Sort.insertionSort ltA d 0 d.size) ∧ KeepB (bnd v) S T := by
  obtain ⟨r, T, ⟨rfl, h1, h2⟩, e⟩ := (ins60 h).ex
  have okv := okW_of h.gw.1.ok
  refine enterW (pu0 _) (pr0 _ rfl) e_fn43 rfl e_ok43 (by simp) fun F hn hs => ?_
  have s0 := hs 0
  have s1 := hs 1
  have s2 := hs 2
  have s3 := hs 3
  have s4 := hs 4
  clear hs
  simp only [List.getElem?_cons_zero, List.getElem?_cons_succ, Option.getD_some] at s0 s1 s2 s3 s4
  simp
  refine loopP_of (pdqH S v d.size) 0 ⟨rfl, by simp [s0], by simp [s1], by simp [s2], by simp [s4]⟩ ?_
  clear s0 s1 s2 s3 s4 hn
  rintro k F' S' hn' ⟨rfl, s0, s1, s2, s4⟩
  have hw : IntKind.i64.wrap (d.size : Int) = (d.size : Int) := wrap_nat (by omega)
  have h12' : (d.size : Int) ≤ 12 := by omega
  simp [s0, s1, s2, s4, hw, h12, h12', e, ex0]
  exact ⟨h1, h2⟩
theorem sort21 {v : AV} {d : Array Att} (h : SrtAt S v d) (h12 : d.size ≤ 12) : CallW C0 26 [v, .func (.func 27) [] []] S fun r T => r = .tuple [] ∧ SrtAt T v (Sort.insertionSort ltA d 0 d.size) ∧ KeepB (bnd v) S T := by
  obtain ⟨r, T, ⟨rfl, h1, h2⟩, e⟩ := (pdq43 h h12 (Lib.bitLen d.size : Nat)).ex
  have hln := h.len
  have hv1 := h.gw.1.sl
  have hw := u64_of (y := d.size) (by omega)
  have e44 := fun Q => len44 (S := S) (u := d.size) (by omega) (Q := Q)
  refine enterW (pu0 _) (pr0 _ rfl) e_fn21 rfl e_ok21 (by simp) fun F hn hs => ?_
  have s0 := hs 0
  have s1 := hs 1
  clear hs
  simp only [List.getElem?_cons_zero, List.getElem?_cons_succ, Option.getD_some] at s0 s1
  simp [s0, s1, hv1, hln, hw, e44, e, ex0]
  exact ⟨h1, h2⟩
end
/-! ### What the sort leaves -/
/-- No later name is ahead of an earlier one. -/
def Asc (l : List Att) : Prop := ∀ (i j : Nat) (a b : Att), i < j → l[i]? = some a → l[j]? = some b → ltS b.name a.name = false
theorem sorted_of (d : Array Att) : (Sort.insertionSort ltA d 0 d.size).toList.Perm d.toList ∧ Asc (Sort.insertionSort ltA d 0 d.size).toList := by
  obtain ⟨⟨hs, _, hp⟩, ho⟩ := Sort.insertionSort_holds (lt := ltA) swoA d 0 d.size (Nat.zero_le _) (Nat.le_refl _)
  have hp' : (Sort.insertionSort ltA d 0 d.size).toList.Perm d.toList := by
    have h1 : (d.extract 0 d.size) = d := by simp
    have h2 : ((Sort.insertionSort ltA d 0 d.size).extract 0 d.size) = Sort.insertionSort ltA d 0 d.size := by
      conv => lhs; arg 3; rw [← hs]
      simp
    rw [h1, h2] at hp
    exact hp
  refine ⟨hp', fun i j a b hij ha hb => ?_⟩
  generalize Sort.insertionSort ltA d 0 d.size = e at hs ho ha hb
  have hj : j < e.size := by
    have := (List.getElem?_eq_some_iff.1 hb).1
    rwa [Array.length_toList] at this
  rw [arr_get (by omega)] at ha hb
  cases ha; cases hb
  exact ho i j (Nat.zero_le _) hij (by omega)
end Go.Proofs.YtpglcebeldgeeaaDoor.val

namespace Go.Proofs.YtpglcebeldgeeaaDoor.val
open Go Go.Am Go.Proofs.YtpglcebeldgeeaaDoor.laid
set_option linter.unusedVariables false
set_option linter.unusedSimpArgs false

noncomputable def sortL (l : List Att) : List Att := (Sort.insertionSort ltA l.toArray 0 l.length).toList
theorem sortL_perm (l : List Att) : (sortL l).Perm l := by
  have h := (sorted_of l.toArray).1
  simp only [List.size_toArray, List.toList_toArray] at h
  exact h
theorem sortL_asc (l : List Att) : Asc (sortL l) := by
  have h := (sorted_of l.toArray).2
  simp only [List.size_toArray] at h
  exact h
noncomputable def makeE (key : List Nat) (l : List Att) : Option (List Nat × List Att) := if l.length ≤ 8 ∧ evMay key (sortL l) = true then some (key, sortL l) else none
theorem bld24_0 : buildA C0 24 [] = some (.agg [.str [], .nils]) := by kernel_rfl
theorem bld24 {S : AS} {v : AV} {n : Nat} {cs : List AV} (h : Sl S v n cs) (key : List Nat) : buildA C0 24 [(0, .str key), (1, v)] = some (.agg [.str key, v]) := by
  rcases h.cases with rfl | ⟨_, _, _, _, _, _, rfl⟩ <;> kernel_rfl
/-- What Make leaves. -/
def MakeR (S : AS) (key : List Nat) (l : List Att) (r : AV) (T : AS) : Prop := match makeE key l with
  | some (k, m) => ∃ v, r = .tuple [.agg [.str k, v], .int .i64 0] ∧ Gw T v 5 38 (m.flatMap encA) ∧ (bnd v = 0 ∨ S.next < bnd v) ∧ AttsAt T v m
  | none => r = .tuple [.agg [.str [], .nils], .int .i64 30]
theorem nt5e : Tryd.f11.ntmps = 23 := by kernel_rfl
section
variable {S : AS}
set_option maxRecDepth 20000 in
theorem make5 {key : List Nat} {u : AV} {l : List Att} (hu : AttsAt S u l) : CallW C0 11 [.str key, u] S fun r T => MakeR S key l r T ∧ Sub S T := by
  have u1 := hu.sl.sl
  have u2 := hu.sl.len_flat encA_len (by omega)
  have uk := okW_sl hu.sl
  have hle := hu.le
  have hA : Sub S ⟨S.h.set S.next (.row [.str [], .nils] 0 0 false 24), S.next + 1⟩ := sub1
  refine enterW (pu0 _) (pr0 _ rfl) e_fn5 rfl e_ok5 (by simp) fun F hn hs => ?_
  rw [nt5e] at hn
  have s0 := hs 0
  have s1 := hs 1
  clear hs
  simp only [List.getElem?_cons_zero, List.getElem?_cons_succ, Option.getD_some] at s0 s1
  unfold MakeR makeE
  by_cases h8 : l.length ≤ 8
  · have h8' : ¬ (8 : Int) < (l.length : Int) := by omega
    have h8'' : ¬ 8 < l.length := by omega
    obtain ⟨v, T1, ⟨hT1, hg, hb⟩, e1⟩ := (clone20 (hu.sub hA).sl (by omega)).ex
    have n1 : S.next + 1 ≤ T1.next := hT1.next
    have hb' : bnd v = 0 ∨ S.next + 1 < bnd v := hb
    have hvo := hg.1.old
    have g1 : T1.h.get S.next = some (.row [.str [], .nils] 0 0 false 24) := by rw [hT1.h _ (Nat.lt_succ_self _)]; exact get_set_same _ _ _
    have hZ : Sub T1 ⟨(T1.h.set T1.next (.row [.str [], .nils] 0 0 false 24)).set T1.next (.row [.str key, v] 0 0 false 24), T1.next + 1⟩ := sub1s
    obtain ⟨P, hP⟩ : ∃ P : AS, P = ⟨(T1.h.set T1.next (.row [.str [], .nils] 0 0 false 24)).set T1.next (.row [.str key, v] 0 0 false 24), T1.next + 1⟩ := ⟨_, rfl⟩
    rw [← hP] at hZ
    have p2 : P.h.get T1.next = some (.row [.str key, v] 0 0 false 24) := by rw [hP]; exact get_set_same _ _ _
    have hPn : P.next = T1.next + 1 := by rw [hP]
    have hsr : SrtAt P v l.toArray := ⟨(hg.agree (fun id e => hZ.h id (by omega)) hZ.next), by simp; omega⟩
    obtain ⟨r, T2, ⟨rfl, hs2, k2⟩, e2⟩ := (sort21 hsr (by simp; omega)).ex
    have hs2 : Gw T2 v 5 38 ((sortL l).flatMap encA) := by
      have := hs2.gw
      simp only [List.size_toArray] at this
      exact this
    have hn2 := k2.2
    have hpl := (sortL_perm l).length_eq
    have hat : AttsAt T2 v (sortL l) := ⟨hs2.1, by omega, fun a ha => hu.ok a ((sortL_perm l).mem_iff.1 ha)⟩
    obtain ⟨r, T3, ⟨rfl, hT3⟩, e3⟩ := (evMay10 (key := key) hat).ex
    have hn3 := hT3.next
    have q1 : T2.h.get S.next = some (.row [.str [], .nils] 0 0 false 24) := by rw [k2.1 _ (by omega) (by omega), hZ.h _ (by omega)]; exact g1
    have q2 : T2.h.get T1.next = some (.row [.str key, v] 0 0 false 24) := by rw [k2.1 _ (by omega) (by omega)]; exact p2
    have r1 := (hT3.h _ (by omega)).trans q1
    have r2 := (hT3.h _ (by omega)).trans q2
    have hsub : Sub S T3 := ⟨fun id hid => by
      rw [hT3.h _ (by omega), k2.1 _ (by omega) (by omega), hZ.h _ (by omega), hT1.h _ (by show id < S.next + 1; omega)]
      exact get_set_ne _ _ (by omega), by omega⟩
    have hset : ∀ o, Sub S ⟨T3.h.set S.next o, T3.next⟩ := fun o => hsub.set _ _ (Nat.le_refl _) _ (Nat.le_refl _)
    have okv := hg.1.ok
    have hbl := bld24 hg.1 key
    have vc := hg.1.cells
    have ne1 : S.next ≠ T1.next := by omega
    have hp := hP.symm
    cases hm : evMay key (sortL l) with
    | false =>
      rw [hm] at e3
      rw [if_neg (by simp)]
      simp [s0, s1, u1, u2, h8, h8', h8'', e1, e2, e3, ex0, hbl, vc, hp, p2, q2, r1, r2, okv, okW_of okv, bld24_0]
      exact hset _
    | true =>
      rw [hm] at e3
      rw [if_pos ⟨h8, rfl⟩]
      simp [s0, s1, u1, u2, h8, h8', h8'', e1, e2, e3, ex0, hbl, vc, hp, p2, q2, r1, r2, okv, okW_of okv, bld24_0]
      refine ⟨⟨?_, by omega, ?_⟩, hset _⟩
      · exact (hs2.agree (fun id e => hT3.h id (by have := hs2.1.old; omega)) hT3.next).agree (fun id e => get_set_ne _ _ (by omega)) (Nat.le_refl _)
      · have h3 := hat.sub hT3
        exact ⟨(h3.sl.agree (fun id e => get_set_ne _ _ (by omega)) (Nat.le_refl _)), h3.le, h3.ok⟩
  · have h8' : (8 : Int) < (l.length : Int) := by omega
    have h8'' : 8 < l.length := by omega
    rw [if_neg (fun h => h8 h.1)]
    simp [s0, s1, u1, u2, h8, h8', h8'', bld24_0]
    exact sub1s
end
end Go.Proofs.YtpglcebeldgeeaaDoor.val

namespace Go.Proofs.YtpglcebeldgeeaaDoor.val
open Go Go.Am Go.Proofs.YtpglcebeldgeeaaDoor.laid
set_option linter.unusedVariables false
set_option linter.unusedSimpArgs false

/-- How many stand ahead. -/
noncomputable def aheadN (E : List Att) (a : Att) : Nat := (E.takeWhile fun x => ltA x a).length
noncomputable def insR (E : List Att) (a : Att) : List Att := E.take (aheadN E a) ++ a :: E.drop (aheadN E a)
noncomputable def refS (l : List Att) : List Att := l.foldl insR []
theorem ahead_le (E : List Att) (a : Att) : aheadN E a ≤ E.length := by
  unfold aheadN
  have := (List.takeWhile_prefix (l := E) (fun x => ltA x a)).length_le
  exact this
theorem ahead_at {E : List Att} {a : Att} {j : Nat} (hj : j ≤ E.length) (h : ∀ i (x : Att), i < j → E[i]? = some x → ltA x a = true) (hs : j = E.length ∨ ∃ x, E[j]? = some x ∧ ltA x a = false) : aheadN E a = j := by
  unfold aheadN
  induction E generalizing j with
  | nil => simp at hj; simp [hj]
  | cons e E ih =>
    cases j with
    | zero =>
      rcases hs with hs | ⟨x, hx, hl⟩
      · simp at hs
      · simp at hx; subst hx; simp [hl]
    | succ j =>
      have h0 := h 0 e (by omega) rfl
      simp only [List.takeWhile_cons, h0, if_true, List.length_cons]
      rw [ih (j := j) (by simp at hj; exact hj) (fun i x hi hx => h (i + 1) x (by omega) (by simpa using hx)) (by
        rcases hs with hs | ⟨x, hx, hl⟩
        · left; simpa using hs
        · right; exact ⟨x, by simpa using hx, hl⟩)]
theorem insR_len (E : List Att) (a : Att) : (insR E a).length = E.length + 1 := by
  have := ahead_le E a
  unfold insR
  simp
  omega
theorem refS_snoc (l : List Att) (a : Att) : refS (l ++ [a]) = insR (refS l) a := by unfold refS; rw [List.foldl_append]; rfl
theorem insR_perm (E : List Att) (a : Att) : (insR E a).Perm (a :: E) := by
  unfold insR
  refine (List.perm_middle).trans ?_
  rw [List.take_append_drop]
theorem refS_perm (l : List Att) : (refS l).Perm l := by
  have key : ∀ (l E : List Att), (l.foldl insR E).Perm (E ++ l) := by
    intro l
    induction l with
    | nil => intro E; simp
    | cons a l ih =>
      intro E
      refine (ih (insR E a)).trans ?_
      refine ((insR_perm E a).append_right l).trans ?_
      exact (List.perm_middle (a := a) (l₁ := E) (l₂ := l)).symm
  exact key l []
noncomputable def makeF (key : List Nat) (l : List Att) : Option (List Nat × List Att) := if l.length ≤ 8 ∧ evMay key (refS l) = true then some (key, refS l) else none
def MakeRF (key : List Nat) (l : List Att) (r : AV) (T : AS) : Prop := match makeF key l with
  | some (k, m) => ∃ v, r = .tuple [.agg [.str k, v], .int .i64 0] ∧ AttsAt T v m
  | none => r = .tuple [.agg [.str [], .nils], .int .i64 30]
/-- The head of a round. -/
def rmkH (S : AS) (key : List Nat) (u : AV) (l : List Att) (k : Nat) (F' : Fr) (S' : AS) : Prop :=
  ∃ (i : Nat) (w : AV), Sub S S' ∧ S.next + 2 ≤ S'.next ∧ S'.h.get S.next = some (.row [.str [], .nils] 0 0 false 24) ∧ S'.h.get (S.next + 1) = some (.row [.str key, w] 0 0 false 24) ∧ Gw S' w 5 38 ((refS (l.take i)).flatMap encA) ∧ (bnd w = 0 ∨ S.next + 2 < bnd w) ∧
    sl F' 1 = u ∧ sl F' 4 = .ptr S.next 0 0 2 ∧ sl F' 6 = .ptr (S.next + 1) 0 0 2 ∧ sl F' 7 = .int .i64 i ∧ F'.n = 68 ∧ i ≤ l.length ∧ k = l.length - i
theorem rmkH_mk {S : AS} {key : List Nat} {u : AV} {l : List Att} {k : Nat} {F' : Fr} {S' : AS} (i : Nat) (w : AV) (h1 : Sub S S') (h2 : S.next + 2 ≤ S'.next) (h3 : S'.h.get S.next = some (.row [.str [], .nils] 0 0 false 24)) (h4 : S'.h.get (S.next + 1) = some (.row [.str key, w] 0 0 false 24)) (h5 : Gw S' w 5 38 ((refS (l.take i)).flatMap encA)) (h6 : bnd w = 0 ∨ S.next + 2 < bnd w)
    (h7 : sl F' 1 = u) (h8 : sl F' 4 = .ptr S.next 0 0 2) (h9 : sl F' 6 = .ptr (S.next + 1) 0 0 2) (h10 : sl F' 7 = .int .i64 i) (h11 : F'.n = 68) (h12 : i ≤ l.length) (h13 : k = l.length - i) : rmkH S key u l k F' S' := ⟨i, w, h1, h2, h3, h4, h5, h6, h7, h8, h9, h10, h11, h12, h13⟩
def atH (V : AS) (b0 b1 : Nat) (u : AV) (i : Nat) (E : List Att) (a : Att) (k : Nat) (F' : Fr) (S' : AS) : Prop :=
  S' = V ∧ ∃ j : Nat, (∀ i (x : Att), i < j → E[i]? = some x → ltA x a = true) ∧ sl F' 1 = u ∧ sl F' 4 = .ptr b0 0 0 2 ∧ sl F' 6 = .ptr b1 0 0 2 ∧ sl F' 7 = .int .i64 i ∧ sl F' 8 = .int .i64 j ∧ F'.n = 68 ∧ j ≤ E.length ∧ k = E.length - j
/-- Attributes more, behind a writable row. -/
theorem app_atts {S : AS} {v x : AV} {L M : List Att} (hg : Gw S v 5 38 (L.flatMap encA)) (hx : Sl S x 5 (M.flatMap encA)) (hl : L.length + M.length ≤ 100) :
    ∃ v' T, builtinV C0 S .append [22, 22] [v, x] = .val v' T ∧ Gw T v' 5 38 ((L ++ M).flatMap encA) ∧ (∀ id, id < S.next → bnd v ≠ id + 1 → T.h.get id = S.h.get id) ∧ S.next ≤ T.next ∧ (bnd v' = bnd v ∨ S.next < bnd v') := by
  have h1 := hg.1.len_flat encA_len (by omega)
  have h2 := hx.len_flat encA_len (by omega)
  obtain ⟨v', T, e1, r1, r2, r3, r4, r5, r6, r7⟩ := append_gw (cx := C0) (ts := []) (t := 22) (u := 22) (p := (38, 5, 56)) e_st22 e_un22 rfl hg hx (by rw [h1, h2]; simp [fits, nble]; omega)
  simp only at r1
  rw [← List.flatMap_append] at r1
  exact ⟨v', T, e1, r1, fun id a b => r2 id a (fun e => b e.symm), r3, r6⟩
theorem ins_round {V : AS} {w : AV} {E : List Att} (a : Att) {j : Nat} (hg : Gw V w 5 38 (E.flatMap encA)) (hj : j ≤ E.length) (hE : E.length ≤ 8) :
    ∃ v1 T1 v2 T2 v3 T3, builtinV C0 V .append [22, 22] [.nils, subA w 0 j] = .val v1 T1 ∧
      builtinV C0 ⟨T1.h.set T1.next (.row (encA a) 0 0 false 38), T1.next + 1⟩ .append [22, 22] [v1, .slice T1.next 0 0 1 5 5 (some 1)] = .val v2 T2 ∧
      builtinV C0 T2 .append [22, 22] [v2, subA w j E.length] = .val v3 T3 ∧ Sub V T1 ∧ Sub V T2 ∧ Sub V T3 ∧ Gw T3 v3 5 38 ((E.take j ++ a :: E.drop j).flatMap encA) ∧ (bnd v3 = 0 ∨ V.next < bnd v3) ∧
      isPanB v1 = false ∧ isPanB v2 = false ∧ isPanB v3 = false ∧ cellsOf v3 = some [v3] := by
  have x1 := cut_flat hg.1 encA_len (by omega) (Nat.zero_le j) hj
  have x3 := cut_flat hg.1 encA_len (by omega) hj (Nat.le_refl _)
  rw [List.drop_zero, Nat.sub_zero] at x1
  rw [List.take_of_length_le (by simp)] at x3
  obtain ⟨v1, T1, e1, g1, k1, n1, b1⟩ := app_atts (L := []) (Gw.nil (S := V)) x1 (by simp; omega)
  have hT1 : Sub V T1 := ⟨fun id hid => k1 id hid (by simp [bnd]), n1⟩
  have b1' : bnd v1 = 0 ∨ V.next < bnd v1 := by
    rcases b1 with h | h
    · left; rw [h]; rfl
    · exact .inr h
  have hB : Sub T1 ⟨T1.h.set T1.next (.row (encA a) 0 0 false 38), T1.next + 1⟩ := sub1
  have g1' := g1.agree (T := ⟨T1.h.set T1.next (.row (encA a) 0 0 false 38), T1.next + 1⟩) (fun id e => hB.h id (by have := g1.1.old; omega)) hB.next
  have x2 : Sl (⟨T1.h.set T1.next (.row (encA a) 0 0 false 38), T1.next + 1⟩ : AS) (.slice T1.next 0 0 1 5 5 (some 1)) 5 ([a].flatMap encA) := by
    refine ⟨by simp [isSl, capB], ?_, by simp [sLen, encA, encV], by simp [bnd]⟩
    simp [rdS, rd_at, rdO_row, encA, encV]
  obtain ⟨v2, T2, e2, g2, k2, n2, b2⟩ := app_atts g1' x2 (by simp; omega)
  have n2' : T1.next + 1 ≤ T2.next := n2
  have hT2 : Sub V T2 := ⟨fun id hid => by
    rw [k2 id (by show id < T1.next + 1; omega) (by omega), hB.h id (by omega)]
    exact hT1.h id hid, by omega⟩
  have b2' : bnd v2 = 0 ∨ V.next < bnd v2 := by
    have : bnd v2 = bnd v1 ∨ T1.next + 1 < bnd v2 := b2
    omega
  obtain ⟨v3, T3, e3, g3, k3, n3, b3⟩ := app_atts g2 (x3.toSub hT2) (by simp; omega)
  have hT3 : Sub V T3 := ⟨fun id hid => by
    rw [k3 id (by have := hT2.next; omega) (by omega)]
    exact hT2.h id hid, by have := hT2.next; omega⟩
  refine ⟨v1, T1, v2, T2, v3, T3, e1, e2, e3, hT1, hT2, hT3, by simpa using g3, ?_, g1.1.np, g2.1.np, g3.1.np, g3.1.cells⟩
  have := hT2.next
  omega
theorem fresh_att (a : Att) (F : Fr) (id : Nat) (x : Tmp) (h : sl F x = .agg (encA a)) : freshV C0 F id (.buildSlice 22 1 #[(0, .tmp x)]) = some (.slice id 0 0 1 5 5 (some 1), .row (encA a) 0 0 false 38) := by
  have := freshV_els (cx := C0) (F := F) (t := 22) (p := (38, 5, 56)) (id := id) (n := 1) (a := #[(0, .tmp x)]) [encA a] e_st22 rfl (by simp [eval_tmp, h, cellsOf]) (by simp [encA, encV]) (by decide)
  simpa using this
section
variable {S : AS}
end
end Go.Proofs.YtpglcebeldgeeaaDoor.val

namespace Go.Proofs.YtpglcebeldgeeaaDoor.val
open Go Go.Am Go.Proofs.YtpglcebeldgeeaaDoor.laid
set_option linter.unusedVariables false
set_option linter.unusedSimpArgs false

theorem textR_one (o : Option (List Nat)) : ∃ (a : List Nat) (c : Int), ∀ r, textR r o → r = .tuple [.str a, .int .i64 c] := by
  cases o with
  | none => exact ⟨[], 1, fun r h => h⟩
  | some t => exact ⟨t, 0, fun r h => h⟩
theorem parO_one (o : Option ValV) : ∃ (w : ValV) (c : Int), ∀ r, parO r o → r = .tuple [.agg (encV w), .int .i64 c] := by
  cases o with
  | none => exact ⟨zeroV, 5, fun r h => h⟩
  | some v => exact ⟨v, 0, fun r h => h⟩
theorem textV_none {v : ValV} (h : textV v = none) : mayV v = false := by
  unfold textV at h
  split at h
  · cases h
  · rename_i hm; simpa using hm
theorem txt_len {v : ValV} (hv : okV2 v) {t : List Nat} (h : textV v = some t) : t.length ≤ 130 ∧ ∀ c, c ∈ t → c < 256 := by
  obtain ⟨hm, rfl⟩ := textV_some h
  obtain ⟨hb, h1, h2⟩ := hv
  unfold txtV
  by_cases hk1 : v.k = 1
  · rw [if_pos hk1]
    unfold fmtN
    split
    · have l := decN_len v.n.natAbs
      have l2 := nDigits_le 19 v.n.natAbs (by omega)
      refine ⟨by rw [List.length_cons]; omega, fun c hc => ?_⟩
      rcases List.mem_cons.1 hc with h | h
      · omega
      · exact decN_bytes _ c h
    · have l := decN_len v.n.toNat
      have l2 := nDigits_le 19 v.n.toNat (by omega)
      exact ⟨by omega, decN_bytes _⟩
  · rw [if_neg hk1]
    by_cases hk3 : v.k = 3
    · rw [if_pos hk3]
      cases v.b <;> refine ⟨by simp [trueN, falseN], fun c hc => ?_⟩ <;> simp [trueN, falseN] at hc <;> omega
    · rw [if_neg hk3]
      have hs : v.s.length ≤ 32 := by
        unfold mayV at hm
        rw [if_neg hk1] at hm
        by_cases hk2 : v.k = 2
        · rw [if_pos hk2] at hm; simp at hm; exact hm.1
        · rw [if_neg hk2] at hm; simp at hm; exact absurd hm.1 hk3
      have hfl := flat_le v.s
      unfold quoteN
      refine ⟨by simp only [List.length_append, List.length_cons, List.length_nil]; omega, fun c hc => ?_⟩
      rcases List.mem_append.1 hc with h | h
      · rcases List.mem_cons.1 h with h | h
        · omega
        · exact flat_bytes hb c h
      · simp at h; omega
theorem parseV_some {s : List Nat} (hs : ∀ c, c ∈ s → c < 256) {w : ValV} (h : parseV s = some w) : okV2 w ∧ textV w = some s := by
  unfold parseV at h
  split at h
  · rename_i e; cases h; exact ⟨readV_ok hs, e⟩
  · cases h
def attT (a : Att) : List Nat := 32 :: a.name ++ 61 :: txtV a.val
def evTxt (key : List Nat) (l : List Att) : List Nat := quoteN key ++ l.flatMap attT
noncomputable def evText (key : List Nat) (l : List Att) : Option (List Nat) := if evMay key l = true then some (evTxt key l) else none
/-- What an event that may be holds. -/
theorem mayL_all {l : List Att} (h : mayL l = true) {i : Nat} {a : Att} (hx : l[i]? = some a) : nameB a.name = true ∧ mayV a.val = true := by
  unfold mayL at h
  have hi := (List.getElem?_eq_some_iff.1 hx).1
  have := List.all_eq_true.1 h i (List.mem_range.2 hi)
  unfold okAt at this
  rw [hx] at this
  simp only [Bool.and_eq_true] at this
  exact this.1
theorem evMay_parts {key : List Nat} {l : List Att} (h : evMay key l = true) : mayL l = true ∧ key.length ≤ 16 ∧ l.length ≤ 8 := by
  unfold evMay at h
  simp only [Bool.and_eq_true, decide_eq_true_eq] at h
  exact ⟨h.1.1, h.1.2, h.2⟩
theorem nameB_parts {s : List Nat} (h : nameB s = true) : s ≠ [] ∧ s.length ≤ 16 ∧ ∀ c, c ∈ s → badC c = false := by
  unfold nameB at h
  simp only [decide_eq_true_eq] at h
  exact ⟨h.1, h.2.1, fun c hc => by
    have := List.any_eq_false.1 h.2.2 c hc
    simpa using this⟩
theorem attT_len {a : Att} (hn : nameB a.name = true) (hv : okV2 a.val) (hm : mayV a.val = true) : (attT a).length ≤ 150 ∧ ((∀ c, c ∈ a.name → c < 256) → ∀ c, c ∈ attT a → c < 256) := by
  have h1 := (nameB_parts hn).2.1
  have h2 := txt_len hv (t := txtV a.val) (by unfold textV; rw [hm]; rfl)
  unfold attT
  refine ⟨by simp only [List.length_append, List.length_cons]; omega, fun hb c hc => ?_⟩
  rcases List.mem_append.1 hc with h | h
  · rcases List.mem_cons.1 h with h | h
    · omega
    · exact hb c h
  · rcases List.mem_cons.1 h with h | h
    · omega
    · exact h2.2 c h
theorem quote_len (s : List Nat) : (quoteN s).length ≤ 4 * s.length + 2 := by
  have := flat_le s
  unfold quoteN
  simp only [List.length_append, List.length_cons, List.length_nil]
  omega
theorem quote_bytes {s : List Nat} (hs : ∀ c, c ∈ s → c < 256) : ∀ c, c ∈ quoteN s → c < 256 := fun c hc => by
  unfold quoteN at hc
  rcases List.mem_append.1 hc with h | h
  · rcases List.mem_cons.1 h with h | h
    · omega
    · exact flat_bytes hs c h
  · simp at h; omega
theorem flatT_len {l : List Att} (h : ∀ a, a ∈ l → (attT a).length ≤ 150) : (l.flatMap attT).length ≤ 150 * l.length := by
  induction l with
  | nil => simp
  | cons a l ih =>
    have h1 := h a (List.mem_cons_self ..)
    have h2 := ih (fun b hb => h b (List.mem_cons_of_mem _ hb))
    simp only [List.flatMap_cons, List.length_append, List.length_cons]
    omega
def textE (r : AV) (o : Option (List Nat)) : Prop := match o with | some t => r = .tuple [.str t, .int .i64 0] | none => r = .tuple [.str [], .int .i64 30]
theorem word_ok {key : List Nat} (hk : ∀ c, c ∈ key → c < 256) : okV2 ⟨2, 0, key, false⟩ := ⟨hk, by show (-9223372036854775808 : Int) ≤ 0; decide, by show (0 : Int) < 9223372036854775808; decide⟩
theorem word_text {key : List Nat} (h : key.length ≤ 16) : textV ⟨2, 0, key, false⟩ = some (quoteN key) := by
  have hm : mayV ⟨2, 0, key, false⟩ = true := by unfold mayV; simp; omega
  unfold textV
  rw [hm]
  simp [txtV]
theorem nt16e : Tryd.f5.ntmps = 43 := by kernel_rfl
def etH (S : AS) (B : Nat) (key : List Nat) (u : AV) (l : List Att) (k : Nat) (F' : Fr) (S' : AS) : Prop :=
  ∃ (i : Nat) (v : AV), Sub S S' ∧ S.next < B ∧ BldAt S' B v (evTxt key (l.take i)) ∧ (bnd v = 0 ∨ B < bnd v) ∧ sl F' 4 = .ptr B 0 0 2 ∧ sl F' 22 = u ∧ sl F' 23 = .int .i64 l.length ∧ sl F' 24 = .int .i64 i ∧ F'.n = 43 ∧ i ≤ l.length ∧ k = l.length - i
theorem etH_mk {S : AS} {B : Nat} {key : List Nat} {u : AV} {l : List Att} {k : Nat} {F' : Fr} {S' : AS} (i : Nat) (v : AV) (h1 : Sub S S') (h2 : S.next < B) (h3 : BldAt S' B v (evTxt key (l.take i))) (h4 : bnd v = 0 ∨ B < bnd v) (h5 : sl F' 4 = .ptr B 0 0 2) (h6 : sl F' 22 = u) (h7 : sl F' 23 = .int .i64 l.length) (h8 : sl F' 24 = .int .i64 i) (h9 : F'.n = 43) (h10 : i ≤ l.length) (h11 : k = l.length - i) : etH S B key u l k F' S' := ⟨i, v, h1, h2, h3, h4, h5, h6, h7, h8, h9, h10, h11⟩
section
variable {S : AS}
set_option maxRecDepth 20000 in
set_option maxHeartbeats 1000000 in
theorem evText16 {key : List Nat} {u : AV} {l : List Att} (hu : AttsAt S u l) (hk : ∀ c, c ∈ key → c < 256) : CallW C0 5 [.agg [.str key, u]] S fun r T => textE r (evText key l) ∧ Sub S T := by
  have hS1 : Sub S ⟨S.h.set S.next (.row [.str key, u] 0 0 false 24), S.next + 1⟩ := sub1
  have u1 := hu.sl.sl
  have u2 := hu.sl.len_flat encA_len (by omega)
  have uk := okW_sl hu.sl
  have hle := hu.le
  obtain ⟨r, T1, ⟨rfl, hT1⟩, e1⟩ := (evMay10 (key := key) (hu.sub hS1)).ex
  have g1 : T1.h.get S.next = some (.row [.str key, u] 0 0 false 24) := by rw [hT1.h _ (Nat.lt_succ_self _)]; exact get_set_same _ _ _
  have hT := hS1.trans hT1
  have n1 : S.next + 1 ≤ T1.next := hT1.next
  refine enterW (pu0 _) (pr0 _ rfl) e_fn16 rfl e_ok16 (by simp) fun F hn hs' => ?_
  rw [nt16e] at hn
  have s0 := hs' 0
  clear hs'
  simp only [List.getElem?_cons_zero, Option.getD_some] at s0
  unfold evText
  cases hm : evMay key l with
  | false =>
    rw [hm] at e1
    simp [s0, u1, u2, uk, hu.sl.cells, e1, ex0, textE, hT]
  | true =>
    rw [hm] at e1
    obtain ⟨hml, hk16, hl8⟩ := evMay_parts hm
    have hatt : ∀ a, a ∈ l → nameB a.name = true ∧ mayV a.val = true := fun a ha => by
      obtain ⟨i, hi, rfl⟩ := List.getElem_of_mem ha
      exact mayL_all hml (List.getElem?_eq_getElem hi)
    have hB0 : Sub T1 ⟨T1.h.set T1.next (.row [.nilp, .nils] 0 0 false 45), T1.next + 1⟩ := sub1
    obtain ⟨r, T2, ⟨rfl, hT2⟩, e2⟩ := (word19 (S := ⟨T1.h.set T1.next (.row [.nilp, .nils] 0 0 false 45), T1.next + 1⟩) key).ex
    obtain ⟨r, T3, ⟨h3, hT3⟩, e3⟩ := (text14 (S := T2) ⟨2, 0, key, false⟩ (word_ok hk)).ex
    rw [word_text hk16] at h3
    obtain rfl : r = .tuple [.str (quoteN key), .int .i64 0] := h3
    have n2 : T1.next + 1 ≤ T2.next := hT2.next
    have n3 := hT3.next
    have b0 : BldAt T3 T1.next .nils [] := ⟨by omega, ⟨.nilp, by rw [hT3.h _ (by omega), hT2.h _ (Nat.lt_succ_self _)]; exact get_set_same _ _ _, .inl rfl⟩, Gw.nil, by simp [bnd]⟩
    have hql := quote_len key
    obtain ⟨r, T4, ⟨rfl, v4, b4, k4, n4, m4⟩, e4⟩ := (write40 b0 (quoteN key) (by simp; omega)).ex
    have hT4 : Sub S T4 := ⟨fun id hid => by
      rw [k4 id (by omega) (by omega) (by simp [bnd]), hT3.h _ (by omega), hT2.h _ (by show id < T1.next + 1; omega), hB0.h _ (by omega)]
      exact hT.h id hid, by omega⟩
    have g0 : (⟨T1.h.set T1.next (.row [.nilp, .nils] 0 0 false 45), T1.next + 1⟩ : AS).h.get S.next = some (.row [.str key, u] 0 0 false 24) := (hB0.h _ (by omega)).trans g1
    have g4 : T4.h.get S.next = some (.row [.str key, u] 0 0 false 24) := by
      rw [k4 _ (by omega) (by omega) (by simp [bnd]), hT3.h _ (by omega), hT2.h _ (by show S.next < T1.next + 1; omega)]
      exact g0
    have g0' := g0
    simp only [encV] at e2 e3
    have ne1 : S.next ≠ T1.next := by omega
    have m4' : bnd v4 = 0 ∨ T1.next < bnd v4 := by
      rcases m4 with h | h
      · left; rw [h]; rfl
      · right; omega
    simp only [List.nil_append] at b4 e4
    have q4 : quoteN key = evTxt key (l.take 0) := by unfold evTxt; simp
    simp [s0, u1, u2, uk, hu.sl.cells, e1, e2, e3, e4, ex0, g1, g4, ne1]
    refine loopP_of (etH S T1.next key u l) l.length (etH_mk 0 v4 hT4 (by omega) (q4 ▸ b4) m4' (by simp) (by simp) (by simp) (by simp) (by simp [hn]) (Nat.zero_le _) rfl) ?_
    clear e1 e2 e3 e4 s0 hn
    rintro k F' S' hn' ⟨i, v, hS, hB, hb, hbv, s4, s22, s23, s24, hn, hi, hk'⟩
    clear hn'
    have hfl : (evTxt key (l.take i)).length ≤ 1400 := by
      have := flatT_len (l := l.take i) (fun a ha => (attT_len (hatt a (List.mem_of_mem_take ha)).1 (hu.ok a (List.mem_of_mem_take ha)).2.2 (hatt a (List.mem_of_mem_take ha)).2).1)
      have hl2 : (l.take i).length ≤ 8 := by rw [List.length_take]; omega
      unfold evTxt
      rw [List.length_append]
      omega
    by_cases hi' : i < l.length
    · have hx : l[i]? = some l[i] := List.getElem?_eq_getElem hi'
      have htk : l.take (i + 1) = l.take i ++ [l[i]] := List.take_succ_eq_append_getElem hi'
      have hoka := hu.ok _ (List.getElem_mem hi')
      have hatta := hatt _ (List.getElem_mem hi')
      have huS := hu.sub hS
      have hpi := isP_pAt (k := i) u1 (by rw [u2]; exact hi')
      have hlo := loadT_el (cx := C0) (e := 38) huS.sl encA_len (by omega) hx e_ag34 e_sz34
      generalize l[i] = a at hx htk hoka hatta hlo
      have hZ : Sub S' ⟨(S'.h.set S'.next (.row [.str [], .int .i64 0, .int .i64 0, .str [], .bool false] 0 0 false 38)).set S'.next (.row (encA a) 0 0 false 38), S'.next + 1⟩ := sub1s
      obtain ⟨r, U1, ⟨h5, hU1⟩, e5⟩ := (text14 (S := ⟨(S'.h.set S'.next (.row [.str [], .int .i64 0, .int .i64 0, .str [], .bool false] 0 0 false 38)).set S'.next (.row (encA a) 0 0 false 38), S'.next + 1⟩) a.val hoka.2.2).ex
      have htx : textV a.val = some (txtV a.val) := by unfold textV; rw [hatta.2]; rfl
      rw [htx] at h5
      obtain rfl : r = .tuple [.str (txtV a.val), .int .i64 0] := h5
      have hZU := hZ.trans hU1
      have nU : S'.next + 1 ≤ U1.next := hU1.next
      have gz : U1.h.get S'.next = some (.row (encA a) 0 0 false 38) := by rw [hU1.h _ (Nat.lt_succ_self _)]; exact get_set_same _ _ _
      have hbU : BldAt U1 T1.next v (evTxt key (l.take i)) := by
        obtain ⟨p, hp, hpp⟩ := hb.at_
        have hlt := hb.lt
        exact ⟨by omega, ⟨p, (hZU.h _ hlt).trans hp, hpp⟩, hb.gw.agree (fun id e => hZU.h id (by have := hb.gw.1.old; omega)) hZU.next, hb.self⟩
      have hal := attT_len hatta.1 hoka.2.2 hatta.2
      obtain ⟨r, U2, ⟨rfl, v', b2, k2, n2', m2⟩, e6⟩ := (write40 hbU (attT a) (by omega)).ex
      have hnl := (nameB_parts hatta.1).2.1
      have htl := txt_len hoka.2.2 htx
      have a1 := add_str [32] a.name (by simp; omega)
      have a2 := add_str (32 :: a.name) [61] (by simp; omega)
      have a3 := add_str (32 :: (a.name ++ [61])) (txtV a.val) (by simp; omega)
      have a4 : (32 :: (a.name ++ [61])) ++ txtV a.val = attT a := by unfold attT; simp
      rw [a4] at a3
      have hUS : Sub S U2 := ⟨fun id hid => by
        rw [k2 id (by have := hS.next; omega) (by omega) (by omega), hZU.h _ (by have := hS.next; omega)]
        exact hS.h id hid, by have := hS.next; omega⟩
      have hw := wrap_succ (i := i) (by omega)
      have hsnoc : evTxt key (l.take i) ++ attT a = evTxt key (l.take (i + 1)) := by unfold evTxt; rw [htk]; simp
      rw [hsnoc] at b2
      have hlt := hb.lt
      have gz0 : (⟨(S'.h.set S'.next (.row [.str [], .int .i64 0, .int .i64 0, .str [], .bool false] 0 0 false 38)).set S'.next (.row (encA a) 0 0 false 38), S'.next + 1⟩ : AS).h.get S'.next = some (.row (encA a) 0 0 false 38) := get_set_same _ _ _
      simp only [encA, encV] at hlo e5 gz gz0
      simp only [List.singleton_append] at a1
      simp [s4, s22, s23, s24, u1, u2, hi', hlo, e5, e6, ex0, gz, bin_str, a1, a2, a3, hw]
      exact ⟨l.length - (i + 1), by omega, etH_mk (i + 1) v' hUS hB b2 (by omega) (by simp [s4]) (by simp [s22]) (by simp [s23]) (by simp [hw]) (by simp [hn]) hi' rfl⟩
    · obtain rfl : i = l.length := by omega
      rw [List.take_length] at hb hfl
      have hbb : ∀ c, c ∈ evTxt key l → c < 256 := fun c hc => by
        unfold evTxt at hc
        rcases List.mem_append.1 hc with h | h
        · exact quote_bytes hk c h
        · obtain ⟨a, ha, hx⟩ := List.mem_flatMap.1 h
          exact (attT_len (hatt a ha).1 (hu.ok a ha).2.2 (hatt a ha).2).2 (hu.ok a ha).1 c hx
      have hne : evTxt key l ≠ [] := by unfold evTxt quoteN; simp
      obtain ⟨r, U, ⟨rfl, d1, d2⟩, e7⟩ := (string42 hb hbb hne (by omega)).ex
      have hU : Sub S U := ⟨fun id hid => (d1 id (by omega)).trans (hS.h id hid), by have := hS.next; omega⟩
      simp [s4, s22, s23, s24, e7, ex0, textE, hU]
def rtH (S : AS) (key : List Nat) (u : AV) (l : List Att) (k : Nat) (F' : Fr) (S' : AS) : Prop :=
  ∃ i : Nat, Sub S S' ∧ S.next < S'.next ∧ S'.h.get S.next = some (.row [.str key, u] 0 0 false 24) ∧ sl F' 1 = .ptr S.next 0 0 2 ∧ sl F' 4 = .str (evTxt key (l.take i)) ∧ sl F' 6 = .int .i64 i ∧ F'.n = 49 ∧ i ≤ l.length ∧ k = l.length - i
theorem rtH_mk {S : AS} {key : List Nat} {u : AV} {l : List Att} {k : Nat} {F' : Fr} {S' : AS} (i : Nat) (h1 : Sub S S') (h2 : S.next < S'.next) (h3 : S'.h.get S.next = some (.row [.str key, u] 0 0 false 24)) (h4 : sl F' 1 = .ptr S.next 0 0 2) (h5 : sl F' 4 = .str (evTxt key (l.take i))) (h6 : sl F' 6 = .int .i64 i) (h7 : F'.n = 49) (h8 : i ≤ l.length) (h9 : k = l.length - i) : rtH S key u l k F' S' := ⟨i, h1, h2, h3, h4, h5, h6, h7, h8, h9⟩
end
end Go.Proofs.YtpglcebeldgeeaaDoor.val

namespace Go.Proofs.YtpglcebeldgeeaaDoor.val
open Go Go.Am Go.Proofs.YtpglcebeldgeeaaDoor.laid
set_option linter.unusedVariables false
set_option linter.unusedSimpArgs false

def AscP (l : List Att) : Prop := l.Pairwise fun a b => ltS b.name a.name = false
def StrP (l : List Att) : Prop := l.Pairwise fun a b => ltS a.name b.name = true
theorem Asc.p {l : List Att} (h : Asc l) : AscP l := by
  unfold AscP
  rw [List.pairwise_iff_getElem]
  intro i j hi hj hij
  exact h i j _ _ hij (List.getElem?_eq_getElem hi) (List.getElem?_eq_getElem hj)
theorem perm_eq : ∀ {A B : List Att}, A.Perm B → StrP A → AscP B → A = B
  | [], B, h, _, _ => by rw [h.nil_eq]
  | a :: A, [], h, _, _ => absurd h.length_eq (by simp)
  | a :: A, b :: B, h, hA, hB => by
    have hab : a = b := by
      by_cases e : a = b
      · exact e
      · exfalso
        have hb : b ∈ A := by
          have := h.mem_iff.2 (List.mem_cons_self (a := b) (l := B))
          rcases List.mem_cons.1 this with k | k
          · exact absurd k.symm e
          · exact k
        have ha : a ∈ B := by
          have := h.mem_iff.1 (List.mem_cons_self (a := a) (l := A))
          rcases List.mem_cons.1 this with k | k
          · exact absurd k e
          · exact k
        have h1 := (List.pairwise_cons.1 hA).1 b hb
        have h2 := (List.pairwise_cons.1 hB).1 a ha
        rw [h1] at h2; cases h2
    subst hab
    rw [perm_eq h.cons_inv (List.pairwise_cons.1 hA).2 (List.pairwise_cons.1 hB).2]
theorem mayL_str {l : List Att} (h : mayL l = true) : StrP l := by
  have step : ∀ j (a b : Att), l[j]? = some b → l[j + 1]? = some a → ltS b.name a.name = true := fun j a b hb ha => by
    unfold mayL at h
    have hi := (List.getElem?_eq_some_iff.1 ha).1
    have := List.all_eq_true.1 h (j + 1) (List.mem_range.2 hi)
    rw [okAt_s ha hb] at this
    simp only [Bool.and_eq_true] at this
    exact this.2
  unfold StrP
  rw [List.pairwise_iff_getElem]
  have key : ∀ d i (hi : i < l.length) (hj : i + d + 1 < l.length), ltS l[i].name l[i + d + 1].name = true := by
    intro d
    induction d with
    | zero => intro i hi hj; exact step i _ _ (List.getElem?_eq_getElem hi) (List.getElem?_eq_getElem hj)
    | succ d ih =>
      intro i hi hj
      have h1 := ih i hi (by omega)
      have h2 := step (i + d + 1) _ _ (List.getElem?_eq_getElem (by omega)) (List.getElem?_eq_getElem hj)
      exact ltS_trans _ _ _ h1 h2
  intro i j hi hj hij
  obtain ⟨d, rfl⟩ : ∃ d, j = i + d + 1 := ⟨j - i - 1, by omega⟩
  exact key d i hi hj
theorem str_asc {l : List Att} (h : StrP l) : AscP l := h.imp fun {a b} hab => by
  rcases lt_tri a.name b.name with ⟨_, _, k⟩ | ⟨k, _, _⟩ | ⟨k, _, _⟩
  · exact k
  · rw [hab] at k; cases k
  · rw [hab] at k; cases k
theorem insR_asc {E : List Att} (a : Att) (h : AscP E) : AscP (insR E a) := by
  induction E with
  | nil => simp [insR, aheadN, AscP]
  | cons e E ih =>
    obtain ⟨h1, h2⟩ := List.pairwise_cons.1 h
    cases hl : ltA e a with
    | true =>
      have : insR (e :: E) a = e :: insR E a := by unfold insR aheadN; simp [hl]
      rw [this]
      refine List.pairwise_cons.2 ⟨fun x hx => ?_, ih h2⟩
      rcases List.mem_cons.1 ((insR_perm E a).mem_iff.1 hx) with k | k
      · subst k
        have hl' : ltS e.name x.name = true := hl
        rcases lt_tri e.name x.name with ⟨_, _, k⟩ | ⟨k, _, _⟩ | ⟨k, _, _⟩
        · exact k
        · rw [hl'] at k; cases k
        · rw [hl'] at k; cases k
      · exact h1 x k
    | false =>
      have : insR (e :: E) a = a :: e :: E := by unfold insR aheadN; simp [hl]
      rw [this]
      refine List.pairwise_cons.2 ⟨fun x hx => ?_, h⟩
      rcases List.mem_cons.1 hx with k | k
      · subst k; exact hl
      · exact swoA.ntrans x e a (h1 x k) hl
theorem refS_asc (l : List Att) : AscP (refS l) := by
  have key : ∀ (l E : List Att), AscP E → AscP (l.foldl insR E) := by
    intro l
    induction l with
    | nil => intro E h; exact h
    | cons a l ih => intro E h; exact ih _ (insR_asc a h)
  exact key l [] List.Pairwise.nil
/-- Two sorted rows of the same attributes: may the one be, it is the other. -/
theorem may_eq {key : List Nat} {A B : List Att} (hp : A.Perm B) (hA : AscP A) (hB : AscP B) : evMay key A = evMay key B ∧ (evMay key A = true → A = B) := by
  have h1 : evMay key A = true → A = B := fun h => perm_eq hp (mayL_str (evMay_parts h).1) hB
  have h2 : evMay key B = true → B = A := fun h => perm_eq hp.symm (mayL_str (evMay_parts h).1) hA
  refine ⟨?_, h1⟩
  cases ha : evMay key A with
  | true => rw [← h1 ha, ha]
  | false =>
    cases hb : evMay key B with
    | true => rw [h2 hb] at hb; rw [hb] at ha; cases ha
    | false => rfl
theorem make_alike (key : List Nat) (l : List Att) : makeE key l = makeF key l := by
  obtain ⟨h1, h2⟩ := may_eq (key := key) ((sortL_perm l).trans (refS_perm l).symm) (sortL_asc l).p (refS_asc l)
  unfold makeE makeF
  rw [← h1]
  by_cases h : l.length ≤ 8 ∧ evMay key (sortL l) = true
  · rw [if_pos h, if_pos h, h2 h.2]
  · rw [if_neg h, if_neg h]
theorem make_perm {key : List Nat} {l m : List Att} (hp : l.Perm m) : makeE key l = makeE key m := by
  obtain ⟨h1, h2⟩ := may_eq (key := key) (((sortL_perm l).trans hp).trans (sortL_perm m).symm) (sortL_asc l).p (sortL_asc m).p
  unfold makeE
  rw [← h1, hp.length_eq]
  by_cases h : m.length ≤ 8 ∧ evMay key (sortL l) = true
  · rw [if_pos h, if_pos h, h2 h.2]
  · rw [if_neg h, if_neg h]
theorem make_some {key k : List Nat} {l m : List Att} (h : makeE key l = some (k, m)) : k = key ∧ m.Perm l ∧ evMay key m = true ∧ makeE key m = some (key, m) := by
  unfold makeE at h
  split at h
  · rename_i hc
    cases h
    refine ⟨rfl, sortL_perm l, hc.2, ?_⟩
    have hs := mayL_str (evMay_parts hc.2).1
    have he : sortL (sortL l) = sortL l := (perm_eq (sortL_perm _).symm hs (sortL_asc _).p).symm
    unfold makeE
    rw [he, if_pos ⟨(evMay_parts hc.2).2.2, hc.2⟩]
  · cases h
theorem get_of {m : List Att} (h : StrP m) {a : Att} (ha : a ∈ m) : getA m a.name = some a.val := by
  induction m with
  | nil => cases ha
  | cons e m ih =>
    obtain ⟨h1, h2⟩ := List.pairwise_cons.1 h
    rcases List.mem_cons.1 ha with k | k
    · subst k; unfold getA; simp
    · have hne : e.name ≠ a.name := fun e' => by
        have := h1 a k
        rw [e', ltS_irr] at this; cases this
      have := ih h2 k
      unfold getA at this ⊢
      simp only [List.find?_cons, hne, decide_false]
      exact this
theorem get_some_iff (m : List Att) (n : List Nat) : (getA m n).isSome = m.any fun a => decide (a.name = n) := by
  unfold getA
  rw [Option.isSome_map]
  induction m with
  | nil => rfl
  | cons e m ih =>
    by_cases h : e.name = n
    · simp [List.find?_cons, h]
    · simp only [List.find?_cons, h, decide_false, List.any_cons, Bool.false_or]
      exact ih
end Go.Proofs.YtpglcebeldgeeaaDoor.val
