/-
  What the functions of the tree's package, and of its reference, come to.
-/
import Derived.Test.YtpjebmdeaieniaaRows
import Derived.Test.YtpjebmdeaieniaaAmRow
import Derived.Test.YtpjebmdeaieniaaAmArgs
import Derived.Test.YtpjebmdeaieniaaTreeLaw
namespace Go.Proofs.Ytpjebmdeaieniaa.tree
open Go Go.Am
set_option linter.unusedVariables false
set_option linter.unusedSimpArgs false

noncomputable abbrev A0 : Am.Ask := { prims := [(8, boolQ true)] }
noncomputable abbrev C0 : Am.Cx := Am.mkCx Try.prog A0
theorem ex0 (f : Nat) : C0.exts.get f = none := get_leaf f
theorem pr0 (f : Nat) (h : (f == 8) = false) : C0.prims.get f = none := by
  have h1 : ¬ f = 8 := by simpa using h
  show ((T.leaf : T (List AV → AS → Option (AV × AS))).set 8 (boolQ true)).get f = none
  rw [get_set_ne _ _ h1]; exact get_leaf f
theorem d8 {S : AS} {Q : AV → AS → Prop} : CallW C0 8 [] S Q = Q (.bool true) S := callW_prim (q := boolQ true) (by kernel_rfl) rfl rfl rfl
theorem pu0 (f : Nat) : C0.pures.get f = none := get_leaf f
theorem st22 : slT C0 22 = some (3, 1, 8) := by kernel_rfl
theorem st50 : slT C0 50 = some (22, 1, 24) := by kernel_rfl
theorem st40 : slT C0 40 = some (5, 1, 1) := by kernel_rfl
theorem un22 : und C0 22 = some (.slice 3) := by kernel_rfl
theorem ag3 : aggOf C0 3 = some false := by kernel_rfl
theorem ag5 : aggOf C0 5 = some false := by kernel_rfl
theorem ag22 : aggOf C0 22 = some false := by kernel_rfl
theorem ag24 : aggOf C0 24 = some false := by kernel_rfl
theorem ag50 : aggOf C0 50 = some false := by kernel_rfl
theorem ag54 : aggOf C0 54 = some false := by kernel_rfl
theorem pt24 : ptT C0 24 = true := by kernel_rfl
theorem pt28 : ptT C0 28 = true := by kernel_rfl
theorem fa52 : fieldAt C0 52 0 = some 0 := by kernel_rfl
theorem fa35 : fieldAt C0 35 0 = some 0 := by kernel_rfl

def ints (l : List Nat) : List AV := l.map fun (n : Nat) => .int .i64 (n : Int)
theorem ints_len (l : List Nat) : (ints l).length = l.length := by simp [ints]
theorem ints_get {l : List Nat} {k n : Nat} (h : l[k]? = some n) : (ints l)[k]? = some (.int .i64 n) := by simp [ints, h]
theorem ints_append (l m : List Nat) : ints (l ++ m) = ints l ++ ints m := by simp [ints]

/-- A tree in memory. -/
structure TrP (S : AS) (i : Nat) (vb : AV) (vs : List AV) (adj : List (List Nat)) : Prop where
  lt : i < S.next
  at_ : S.h.get i = some (.row [vb] 0 0 false 52)
  sl : Sl S vb 1 vs
  len : vs.length = adj.length
  row : ∀ (k : Nat) (l : List Nat), adj[k]? = some l → ∃ v, vs[k]? = some v ∧ Sl S v 1 (ints l)
theorem TrP.sub {S T : AS} {i : Nat} {vb : AV} {vs : List AV} {adj : List (List Nat)} (h : TrP S i vb vs adj) (hs : Sub S T) : TrP T i vb vs adj :=
  ⟨Nat.lt_of_lt_of_le h.lt hs.next, by rw [hs.h i h.lt]; exact h.at_, h.sl.toSub hs, h.len, fun k l hk => let ⟨v, a, b⟩ := h.row k l hk; ⟨v, a, b.toSub hs⟩⟩

theorem fn13 : C0.fns.get 13 = some Try.f13 := by kernel_rfl
theorem ok13 : codeOk C0 Try.f13.ntmps (Try.f13.body.getD .skip) = true := by kernel_rfl
theorem size {S : AS} {i : Nat} {vb : AV} {vs : List AV} {adj : List (List Nat)} (h : TrP S i vb vs adj) {Q : AV → AS → Prop} (hQ : Q (.int .i64 adj.length) S) : CallW C0 13 [.ptr i 0 0 1] S Q := by
  refine enterW (pu0 _) (pr0 _ rfl) fn13 rfl ok13 (by simp) fun F hn hs => ?_
  have s0 := hs 0
  clear hs
  simp only [List.getElem?_cons_zero, Option.getD_some] at s0
  have h1 := h.at_
  have h2 := h.sl.sl
  have h3 : sLen vb = adj.length := by rw [h.sl.len1, h.len]
  simp [s0, h1, h2, h3, st50, ag50, fa52, pt24, hQ]
theorem callSize {S : AS} {i : Nat} {vb : AV} {vs : List AV} {adj : List (List Nat)} (h : TrP S i vb vs adj) {Q : AV → AS → Prop} : CallW C0 13 [.ptr i 0 0 1] S Q = Q (.int .i64 adj.length) S := (size h ⟨rfl, rfl⟩ : CallW C0 13 [.ptr i 0 0 1] S _).eq

theorem fn24 : C0.fns.get 24 = some Try.f24 := by kernel_rfl
theorem ok24 : codeOk C0 Try.f24.ntmps (Try.f24.body.getD .skip) = true := by kernel_rfl
theorem isIn {S : AS} {i : Nat} {vb : AV} {vs : List AV} {adj : List (List Nat)} (h : TrP S i vb vs adj) (b : Int) : CallW C0 24 [.ptr i 0 0 1, .int .i64 b] S fun v T => v = .bool (decide (0 ≤ b) && decide (b < adj.length)) ∧ T = S := by
  refine enterW (pu0 _) (pr0 _ rfl) fn24 rfl ok24 (by simp) fun F hn hs => ?_
  have s0 := hs 0
  have s1 := hs 1
  clear hs
  simp only [List.getElem?_cons_zero, List.getElem?_cons_succ, Option.getD_some] at s0 s1
  by_cases h1 : 0 ≤ b
  · simp [s0, s1, h1, ex0, callSize h]
  · simp [s0, s1, h1]
theorem callIs {S : AS} {i : Nat} {vb : AV} {vs : List AV} {adj : List (List Nat)} (h : TrP S i vb vs adj) {b : Int} {Q : AV → AS → Prop} : CallW C0 24 [.ptr i 0 0 1, .int .i64 b] S Q = Q (.bool (decide (0 ≤ b) && decide (b < adj.length))) S := (isIn h b).eq

/-! ### slices.Clone -/
theorem fn26 : C0.fns.get 26 = some Try.f26 := by kernel_rfl
theorem ok26 : codeOk C0 Try.f26.ntmps (Try.f26.body.getD .skip) = true := by kernel_rfl
theorem clone {S : AS} {v : AV} {cs : List AV} (h : Sl S v 1 cs) (hf : cs.length ≤ 4096) : CallW C0 26 [v] S fun v' T => Sub S T ∧ Sl T v' 1 cs ∧ isNil v' = isNil v ∧ (cs ≠ [] → Own T S.next v' 1 3 cs) ∧ (bnd v' = 0 ∨ S.next < bnd v') := by
  refine enterW (pu0 _) (pr0 _ rfl) fn26 rfl ok26 (by simp) fun F hn hs => ?_
  have s0 := hs 0
  clear hs
  simp only [List.getElem?_cons_zero, Option.getD_some] at s0
  have h2 := h.sl
  cases hnil : isNil v with
  | true =>
    obtain ⟨rfl, rfl⟩ := h.isNil hnil
    simp [s0, st22, Sub.refl, Sl.nil, bnd]
  | false =>
    have hl := h.len1
    have hx : Sl (⟨S.h.set S.next (.row [] 0 0 false 3), S.next + 1⟩ : AS) v 1 cs := ⟨h2, by rw [rdS_set h.old]; exact h.rd, h.len, Nat.le_succ_of_le h.old⟩
    have hfit : fits (sLen v) 8 = true := by rw [hl]; simp [fits, nble]; omega
    obtain ⟨v', T, e1, r1, r2, r3, r4, r5, r6⟩ := append_empty (ts := []) st22 un22 rfl (get_set_same _ _ _) (Nat.lt_succ_self _) hx hfit
    have hsub : Sub S T := ((Sub.refl S).set _ _ (Nat.le_refl _) _ (Nat.le_succ _)).trans r2
    have np : isPanB v' = false := by rcases r1.cases with rfl | ⟨_, _, _, _, _, _, rfl⟩ <;> rfl
    simp [s0, st22, h2, hnil, e1, np, hsub, r1, r3]
    refine ⟨fun hc => (r5 (by rw [hl]; intro h0; exact hc (List.length_eq_zero_iff.1 h0))).mono (Nat.le_succ _), .inr ?_⟩
    rcases r6 with r6 | r6
    · rw [r6]; exact Nat.lt_succ_self _
    · exact Nat.lt_of_succ_lt r6
/-! ### Same -/
def intZ (l : List Int) : List AV := l.map fun n => .int .i64 n
theorem intZ_len (l : List Int) : (intZ l).length = l.length := by simp [intZ]
theorem intZ_get (l : List Int) {k : Nat} (h : k < l.length) : (intZ l)[k]? = some (.int .i64 l[k]) := by simp [intZ, h]
theorem ints_Z (l : List Nat) : ints l = intZ (l.map Int.ofNat) := by simp [ints, intZ]
theorem fn14 : C0.fns.get 14 = some Try.f14 := by kernel_rfl
theorem ok14 : codeOk C0 Try.f14.ntmps (Try.f14.body.getD .skip) = true := by kernel_rfl
theorem nt14 : Try.f14.ntmps = 26 := by kernel_rfl
theorem same {S : AS} {u v : AV} {l m : List Int} (hu : Sl S u 1 (intZ l)) (hv : Sl S v 1 (intZ m)) (hb : l.length < 4611686018427387904) : CallW C0 14 [u, v] S fun x T => x = .bool (decide (l = m)) ∧ T = S := by
  refine enterW (pu0 _) (pr0 _ rfl) fn14 rfl ok14 (by simp) fun F hn hs => ?_
  rw [nt14] at hn
  have s0 := hs 0
  have s1 := hs 1
  clear hs
  simp only [List.getElem?_cons_zero, List.getElem?_cons_succ, Option.getD_some] at s0 s1
  have u1 := hu.sl
  have v1 := hv.sl
  have u2 : sLen u = l.length := by rw [hu.len1, intZ_len]
  have v2 : sLen v = m.length := by rw [hv.len1, intZ_len]
  by_cases hl : l.length = m.length
  · simp [s0, s1, u1, v1, u2, v2, hl, st22]
    refine loopP_of (fun k F' S' => ∃ i : Nat, S' = S ∧ sl F' 0 = u ∧ sl F' 1 = v ∧ sl F' 5 = .int .i64 i ∧ i ≤ l.length ∧ k = l.length - i ∧ l.take i = m.take i) l.length ⟨0, by simp [s0, s1]⟩ ?_
    rintro k F' S' hn' ⟨i, rfl, t0, t1, t5, hi, hk, he⟩
    have hn2 : F'.n = 26 := by rw [hn']; simp [hn]
    clear hn' s0 s1 hn
    by_cases hi' : i < l.length
    · have hi2 : i < m.length := by omega
      simp [t0, t1, t5, u1, u2, st22, hi', hn2]
      refine still_ok (n := 26) (by kernel_rfl) (by simp [hn2]) ?_
      have hx := loadT_sl (cx := C0) (e := 3) hu (intZ_get l hi') ag3
      have hy := loadT_sl (cx := C0) (e := 3) hv (intZ_get m hi2) ag3
      by_cases hc : l[i] = m[i]
      · simp [t0, t1, t5, u1, u2, v1, v2, st22, hi', hi2, hx, hy, hc, hu.ok, hv.ok]
        exact ⟨l.length - (i + 1), by omega, i + 1, wrap_succ (by omega), by omega, rfl, take_more he hi' hi2 hc⟩
      · simp [t0, t1, t5, u1, u2, v1, v2, st22, hi', hi2, hx, hy, hc, hu.ok, hv.ok]
        rintro rfl
        exact hc rfl
    · simp [t0, t1, t5, u1, u2, st22, hi']
      rw [List.take_of_length_le (by omega), List.take_of_length_le (by omega)] at he
      exact he
  · have hl' : ¬ ((l.length : Int) = m.length) := by omega
    simp [s0, s1, u1, v1, u2, v2, hl', st22]
    intro e
    exact hl (by rw [e])
end Go.Proofs.Ytpjebmdeaieniaa.tree
