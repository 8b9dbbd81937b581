/-
  The reference's 'New'; what is refused.
-/
import Derived.Test.YtpjebmdeaieniaaTreeRefc
namespace Go.Proofs.Ytpjebmdeaieniaa.tree
open Go Go.Am
set_option linter.unusedVariables false
set_option linter.unusedSimpArgs false

/-- Fit as far as k. -/
def okTo (l : List Int) (k : Nat) : Prop := ∀ j, j < k → ∃ x : Nat, l[j + 1]? = some (x : Int) ∧ x ≤ j
theorem okTo_succ {l : List Int} {k : Nat} (h : okTo l k) {q : Int} (hq : l[k + 1]? = some q) (h1 : ¬ q < 0) (h2 : ¬ (k : Int) < q) : okTo l (k + 1) := by
  intro j hj
  by_cases hjk : j < k
  · exact h j hjk
  · obtain rfl : j = k := by omega
    exact ⟨q.toNat, by rw [hq, Int.toNat_of_nonneg (by omega)], by omega⟩
theorem valid_of {l : List Int} (h1 : 1 ≤ l.length) (h2 : l.length ≤ 64) (h3 : l[0]? = some (-1)) {k : Nat} (h : okTo l k) (hk : l.length ≤ k + 1) : Valid l :=
  ⟨h1, h2, h3, fun j hj => h j (by omega)⟩

theorem fn10 : C0.fns.get 10 = some Try.f10 := by kernel_rfl
theorem ok10 : codeOk C0 Try.f10.ntmps (Try.f10.body.getD .skip) = true := by kernel_rfl
theorem nt10 : Try.f10.ntmps = 44 := by kernel_rfl
theorem bu35 (v : AV) (h : cellsOf v = some [v]) : buildA C0 35 [(0, v)] = some (.agg [v]) := by
  have : buildA C0 35 [(0, v)] = (match fillA (fun i => nth i [(0, 1)]) [(0, v)] [.nils] with | some cells => some (.agg cells) | none => none) := by kernel_rfl
  rw [this]
  simp [fillA, h, nth, spliceL, nbeq, nble]
def rnewI (S : AS) (u : AV) (l : List Int) (m : Nat) (F' : Fr) (S' : AS) : Prop := ∃ k : Nat, S' = S ∧ sl F' 0 = u ∧ sl F' 4 = .int .i64 ((k : Int) + 1) ∧ okTo l k ∧ k + 1 ≤ l.length ∧ m = l.length - k
/-- What 'New' tells of parents. -/
def newR (S : AS) (l : List Int) (v : AV) (T : AS) : Prop := Sub S T ∧ ((Valid l ∧ ∃ t pv, v = .tuple [.ptr t 0 0 1, .int .i64 0] ∧ RefP T t pv l ∧ S.next ≤ t ∧ (bnd pv = 0 ∨ S.next < bnd pv)) ∨ (¬ Valid l ∧ v = .tuple [.nilp, .int .i64 1]))
set_option maxHeartbeats 1000000 in
theorem rnew {S : AS} {u : AV} {l : List Int} (hu : Sl S u 1 (intZ l)) : CallW C0 10 [u] S (newR S l) := by
  refine enterW (pu0 _) (pr0 _ rfl) fn10 rfl ok10 (by simp) fun F hn hs => ?_
  rw [nt10] at hn
  have s0 := hs 0
  clear hs
  simp only [List.getElem?_cons_zero, Option.getD_some] at s0
  have u1 := hu.sl
  have u2 : sLen u = l.length := by rw [hu.len1, intZ_len]
  have bad : ¬ Valid l → newR S l (.tuple [.nilp, .int .i64 1]) S := fun h => ⟨Sub.refl S, .inr ⟨h, rfl⟩⟩
  by_cases c0 : l.length = 0
  · have b := bad fun h => by have := h.lo; omega
    have c0' : ((l.length : Nat) : Int) = 0 := by omega
    simp [s0, u1, u2, st22, c0']
    exact b
  by_cases c1 : (64 : Int) < l.length
  · have b := bad fun h => by have := h.hi; omega
    have c0' : ¬ ((l.length : Nat) : Int) = 0 := by omega
    simp [s0, u1, u2, st22, c0', c0, c1]
    exact b
  have c0' : ¬ ((l.length : Nat) : Int) = 0 := by omega
  have c2 : 0 < l.length := by omega
  have c3 : ¬ l = [] := by intro e; rw [e] at c2; simp at c2
  obtain ⟨q0, hq0⟩ : ∃ q, l[0]? = some q := ⟨_, List.getElem?_eq_getElem c2⟩
  have l0 := loadT_sl (cx := C0) (e := 3) hu (k := 0) (x := .int .i64 q0) (by rw [intZ, List.getElem?_map, hq0]; rfl) ag3
  by_cases c4 : q0 = -1
  · subst c4
    simp [s0, u1, u2, st22, c0', c0, c1, c2, c3, l0, ag3]
    refine loopP_of (rnewI S u l) l.length ⟨0, rfl, by simp [s0], by simp, fun j hj => by omega, by omega, by omega⟩ ?_
    rintro m F' S' hn' ⟨k, rfl, r0, r4, hok, hk, hm⟩
    have kz : (0 : Int) ≤ (k : Int) + 1 := by omega
    by_cases hkl : k + 1 < l.length
    · have hkl' : (k : Int) + 1 < l.length := by omega
      obtain ⟨q, hq⟩ : ∃ q, l[k + 1]? = some q := ⟨_, List.getElem?_eq_getElem hkl⟩
      have l1 := loadT_sl (cx := C0) (e := 3) hu (k := k + 1) (x := .int .i64 q) (by rw [intZ, List.getElem?_map, hq]; rfl) ag3
      have inv : Valid l → 0 ≤ q ∧ q ≤ k := fun h => by
        obtain ⟨x, h1, h2⟩ := h.up k hkl
        rw [hq] at h1; cases h1
        omega
      have hw : IntKind.i64.wrap ((k : Int) + 1 + 1) = (k : Int) + 1 + 1 := IntWalk.i64_in _ (by omega)
      by_cases c5 : q < 0
      · have b := bad fun h => by have := inv h; omega
        simp [r0, r4, u1, u2, st22, kz, hkl', l1, ag3, c5]
        exact b
      · by_cases c6 : (k : Int) + 1 ≤ q
        · have b := bad fun h => by have := inv h; omega
          simp [r0, r4, u1, u2, st22, kz, hkl', l1, ag3, c5, c6]
          exact b
        · simp [r0, r4, u1, u2, st22, kz, hkl', l1, ag3, c5, c6, hw]
          exact ⟨l.length - (k + 1), by omega, k + 1, rfl, by simp [r0], by simp, okTo_succ hok hq c5 (by omega), by omega, rfl⟩
    · have hkl' : ¬ (k : Int) + 1 < l.length := by omega
      have hval := valid_of (by omega) (by omega) hq0 hok (by omega)
      obtain ⟨pv, T, e3, o1, o2, _, _, _, _⟩ := append_own (cx := C0) (S := S') (lo := S'.next) (ts := []) (v := .nils) (x := u) st22 un22 rfl Own.nil (Nat.le_refl _) hu (by rw [sLen_nils, u2]; simp [fits, nble]; omega)
      rw [List.nil_append] at o1
      have bu := bu35 pv o1.sl.cells
      simp [r0, r4, u1, u2, st22, hkl', e3, bu]
      have hT : Sub T (⟨T.h.set T.next (.row [pv] 0 0 false 35), T.next + 1⟩ : AS) := (Sub.refl T).set _ _ (Nat.le_refl _) _ (Nat.le_succ _)
      refine ⟨o2.sub.trans hT, .inl ⟨hval, T.next, pv, rfl, ⟨Nat.lt_succ_self _, get_set_same _ _ _, o1.sl.toSub hT⟩, o2.next, o1.above.imp id (fun h => h.1)⟩⟩
  · have b := bad fun h => by have := h.head; rw [hq0] at this; cases this; exact c4 rfl
    simp [s0, u1, u2, st22, c0', c0, c1, c2, c3, l0, ag3, c4]
    exact b

/-! ### The program's, refused -/
def newbI (S : AS) (l : List Int) (w : AV) (m : Nat) (F' : Fr) (S' : AS) : Prop := ∃ (k : Nat) (vs : List AV) (adj : List (List Nat)), Bld S' (S.next + 2) S.next (S.next + 1) l.length vs adj ∧ (∀ (j : Nat) a, adj[j]? = some a → a.length ≤ 2 * k) ∧ Sub S S' ∧
  sl F' 4 = .ptr (S.next + 1) 0 0 1 ∧ sl F' 27 = w ∧ sl F' 28 = .int .i64 (l.length - 1 : Nat) ∧ sl F' 29 = .int .i64 k ∧ okTo l k ∧ k ≤ l.length - 1 ∧ m = l.length - 1 - k
theorem adj_grow {adj : List (List Nat)} {j x k : Nat} {a : List Nat} (h : ∀ (j : Nat) a, adj[j]? = some a → a.length ≤ k) (ha : adj[j]? = some a) : ∀ (i : Nat) b, (adj.set j (a ++ [x]))[i]? = some b → b.length ≤ k + 1 := by
  intro i b hb
  by_cases hi : i = j
  · subst hi
    have hl := (List.getElem?_eq_some_iff.1 ha).1
    rw [List.getElem?_set_self hl] at hb
    cases hb
    have := h i a ha
    simp; omega
  · rw [List.getElem?_set_ne (Ne.symm hi)] at hb
    have := h i b hb; omega
set_option maxHeartbeats 2000000 in
theorem newBad {S : AS} {u : AV} {l : List Int} (hu : Sl S u 1 (intZ l)) (hb : ¬ Valid l) : CallW C0 9 [u] S fun v T => v = .tuple [.nilp, .int .i64 1] ∧ Sub S T := by
  refine enterW (pu0 _) (pr0 _ rfl) fn9 rfl ok9 (by simp) fun F hn hs => ?_
  rw [nt9] at hn
  have s0 := hs 0
  clear hs
  simp only [List.getElem?_cons_zero, Option.getD_some] at s0
  have u1 := hu.sl
  have u2 : sLen u = l.length := by rw [hu.len1, intZ_len]
  by_cases c0 : (l.length : Int) < 1
  · simp [s0, u1, u2, st22, c0, Sub.refl]
  by_cases c1 : (64 : Int) < l.length
  · simp [s0, u1, u2, st22, c0, c1, Sub.refl]
  have c2 : 0 < l.length := by omega
  have c3 : ¬ l = [] := by intro e; rw [e] at c2; simp at c2
  obtain ⟨q0, hq0⟩ : ∃ q, l[0]? = some q := ⟨_, List.getElem?_eq_getElem c2⟩
  have l0 := loadT_sl (cx := C0) (e := 3) hu (k := 0) (x := .int .i64 q0) (by rw [intZ, List.getElem?_map, hq0]; rfl) ag3
  by_cases c4 : q0 = -1
  · subst c4
    have v1 : 1 ≤ l.length := c2
    have hfit : fits l.length 24 = true := by simp [fits, nble]; omega
    have bu := bu52 (.slice S.next 0 0 l.length l.length 1 (some l.length)) rfl
    have w1 := hu.cut (l := 1) (k := sLen u) (by omega) (Nat.le_refl _)
    have w2 := subA_len hu (l := 1) (k := sLen u) (by omega) (Nat.le_refl _)
    rw [u2] at w1 w2
    have w3 := w1.sl
    simp [s0, u1, u2, st22, st50, c0, c1, c2, c3, l0, ag3, ze22, ze52, hfit, bu, natOf, v1, w2, w3]
    generalize hw : subA u 1 l.length = w at w1 w2 w3
    refine loopP_of (newbI S l w) (l.length - 1) ?_ ?_
    · refine ⟨0, List.replicate l.length .nils, List.replicate l.length [], ⟨?_, ?_, by omega, by omega, by omega, by simp, by simp, by simp, ?_, ?_⟩, ?_, ?_, by simp, by simp [hw], by simp, by simp, fun j hj => by omega, by omega, by omega⟩
      · simp
      · simp
      · intro j l' hl'
        rw [List.getElem?_replicate] at hl' ⊢
        split at hl'
        · rename_i hj
          cases hl'
          exact ⟨.nils, by simp [hj], Own.nil⟩
        · cases hl'
      · intro j j' v v' _ hv' _ _
        rw [List.getElem?_replicate] at hv'
        split at hv'
        · cases hv'; rfl
        · cases hv'
      · intro j a ha
        rw [List.getElem?_replicate] at ha
        split at ha
        · cases ha; simp
        · cases ha
      · exact ((Sub.refl S).set _ _ (Nat.le_refl _) _ (Nat.le_succ _)).set _ _ (by omega) _ (by simp)
    · rintro m F' S' hn' ⟨k, vs, adj, hB, hadj, hsub, r4, r27, r28, r29, hok, hk, hm⟩
      have hn2 : F'.n = 78 := by rw [hn']; simp [hn]
      clear hn' s0 hn
      have w1' := w1.toSub hsub
      by_cases hkl : k < l.length - 1
      · have hk1 : k + 1 < l.length := by omega
        obtain ⟨q, hq⟩ : ∃ q, l[k + 1]? = some q := ⟨_, List.getElem?_eq_getElem hk1⟩
        have hx : ((intZ l).drop (1 * 1)).take ((l.length - 1) * 1) = intZ (l.drop 1) := by
          rw [Nat.mul_one, Nat.mul_one, intZ, intZ, List.map_drop, List.take_of_length_le (by simp)]
        rw [hx] at w1'
        have hg : (intZ (l.drop 1))[k]? = some (.int .i64 q) := by
          rw [intZ, List.getElem?_map, List.getElem?_drop, Nat.add_comm 1 k, hq]; rfl
        have l1 := loadT_sl (cx := C0) (e := 3) w1' hg ag3
        by_cases c5 : q < 0
        · simp [r4, r27, r28, r29, hkl, w2, w3, st22, l1, ag3, c5, hsub]
        by_cases c6 : (k : Int) < q
        · simp [r4, r27, r28, r29, hkl, w2, w3, st22, l1, ag3, c5, c6, hsub]
        obtain ⟨x, rfl⟩ : ∃ x : Nat, q = x := ⟨q.toNat, by omega⟩
        have hxk : x ≤ k := by omega
        obtain ⟨a1l, ha1l⟩ : ∃ a, adj[k + 1]? = some a := ⟨_, List.getElem?_eq_getElem (by rw [hB.alen]; exact hk1)⟩
        obtain ⟨va, va', Ta, a1, a2, a3, a4, a5, a6, a7, a8, a9, a10⟩ := hB.add (x := x) ha1l (by have := hadj _ _ ha1l; omega)
        have g1 := adj_grow (x := x) hadj ha1l
        obtain ⟨lp, hlp⟩ : ∃ a, (adj.set (k + 1) (a1l ++ [x]))[x]? = some a := ⟨_, List.getElem?_eq_getElem (by rw [List.length_set, hB.alen]; omega)⟩
        obtain ⟨vb, vb', Tb, b1, b2, b3, b4, b5, b6, b7, b8, b9, b10⟩ := a8.add (x := k + 1) hlp (by have := g1 _ _ hlp; omega)
        have g2 := adj_grow (x := k + 1) g1 hlp
        have ek : ((k + 1 : Nat) : Int) = (k : Int) + 1 := by omega
        rw [ek] at b2 b3
        have t0 := hB.tree
        have ta := a8.tree
        have hkw : IntKind.i64.wrap ((k : Int) + 1) = ((k + 1 : Nat) : Int) := wrap_succ (by omega)
        have hkz : (0 : Int) ≤ (k : Int) + 1 := by omega
        have hkz' : (k : Int) + 1 < l.length := by omega
        have q1 : ¬ (x : Int) < 0 := by omega
        have q2 : ¬ ((k : Int) < (x : Int)) := by omega
        have q3 : x < l.length := by omega
        have hlo := hB.hlo
        have hlo2 := a8.hlo
        have n1 : ¬ S.next + 1 = S'.next := by omega
        have n2 : ¬ S.next + 1 = Ta.next := by have : S.next + 2 ≤ Ta.next := hlo2; omega
        simp [r4, r27, r28, r29, hkl, w2, w3, st22, l1, ag3, q1, c6]
        refine drawn_forget [4, 5, 6, 27, 28, 29] fun G hn3 hag => ?_
        simp [r4, r27, r28, r29] at hag
        obtain ⟨r4', r5, r6, r27', r28', r29'⟩ := hag
        have hn4 : G.n = 78 := by rw [hn3]; simp [hn2]
        clear hn3
        refine draws [.p, .p, .p, .r 0 2, .p, .p, .p, .p, .p, .r 0 1, .p, .p, .p, .r 0 1, .p, .e [], .e [], .p, .e []] (n := 78) (by kernel_rfl) hn4 ?_
        simp [r4', r5, r6, r27', r28', r29', st22, st50, ag50, ag22, fa52, sz22, t0, n1, hkw, hkz, hkz', a1, a2, a3, a4, a5, a6, a7]
        refine drawn_forget [4, 5, 6, 27, 28, 29] fun H hn5 hag => ?_
        simp [r4', r5, r6, r27', r28', r29'] at hag
        obtain ⟨r4, r5, r6, r27, r28, r29⟩ := hag
        have hn6 : H.n = 78 := by rw [hn5]; simp [hn4]
        clear hn5 r4' r27' r28' r29'
        refine draws [.p, .p, .p, .r 0 2, .p, .p, .p, .p, .r 0 1, .p, .p, .r 0 1, .p, .p, .e [], .e [], .p, .e []] (n := 78) (by kernel_rfl) hn6 ?_
        simp [r4, r5, r6, r27, r28, r29, st22, st50, ag50, ag22, fa52, sz22, ta, n1, n2, hkw, hkz, hkz', q3, b1, b2, b3, b4, b5, b6, b7]
        refine ⟨l.length - 1 - (k + 1), by omega, k + 1, _, _, b8, ?_, ?_, by simp [r4], by simp [r27], by simp [r28], by simp [hkw], okTo_succ hok hq c5 c6, by omega, rfl⟩
        · intro j a ha; have := g2 j a ha; omega
        · refine ⟨fun id hid => ?_, Nat.le_trans hsub.next (Nat.le_trans a9 b9)⟩
          show (Tb.h.set S.next _).get id = _
          rw [get_set_ne _ _ (by omega), b10 id (by omega) (by omega)]
          show (Ta.h.set S.next _).get id = _
          rw [get_set_ne _ _ (by omega), a10 id (by omega) (by omega)]
          exact hsub.h id hid
      · exact absurd (valid_of v1 (by omega) hq0 hok (by omega)) hb
  · simp [s0, u1, u2, st22, c0, c1, c2, c3, l0, ag3, c4, Sub.refl]
end Go.Proofs.Ytpjebmdeaieniaa.tree
