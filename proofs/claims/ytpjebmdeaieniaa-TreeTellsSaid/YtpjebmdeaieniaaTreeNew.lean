/-
  'New': a tree is laid.
-/
import Derived.Test.YtpjebmdeaieniaaTreePath
namespace Go.Proofs.Ytpjebmdeaieniaa.tree
open Go Go.Am
set_option linter.unusedVariables false
set_option linter.unusedSimpArgs false

/-- The neighbours, once the brokers up to k have been put in. -/
def adjK (p : Nat → Nat) (n k : Nat) : List (List Nat) := (List.range n).map fun j => (if j = 0 ∨ k < j then [] else [p j]) ++ (List.range (k + 1)).filter fun c => decide (0 < c) && decide (p c = j)
theorem adjK_len (p : Nat → Nat) (n k : Nat) : (adjK p n k).length = n := by simp [adjK]
theorem adjK_get {p : Nat → Nat} {n k j : Nat} (h : j < n) : (adjK p n k)[j]? = some ((if j = 0 ∨ k < j then [] else [p j]) ++ (List.range (k + 1)).filter fun c => decide (0 < c) && decide (p c = j)) := by simp [adjK, h]
theorem adjK_zero (p : Nat → Nat) (n : Nat) : adjK p n 0 = List.replicate n [] := by
  apply List.ext_getElem?
  intro j
  by_cases h : j < n
  · rw [adjK_get h, List.getElem?_replicate, if_pos h]
    have : j = 0 ∨ 0 < j := by omega
    simp [this, List.range_succ]
  · rw [List.getElem?_eq_none (by rw [adjK_len]; omega), List.getElem?_eq_none (by simp; omega)]
theorem adjK_full (p : Nat → Nat) (n : Nat) (hn : 0 < n) : adjK p n (n - 1) = adjs p n := by
  apply List.ext_getElem?
  intro j
  by_cases h : j < n
  · rw [adjK_get h, adjs_get h]
    unfold adjOf
    rw [show n - 1 + 1 = n by omega]
    congr 2
    by_cases h0 : j = 0
    · simp [h0]
    · rw [if_neg h0, if_neg (by omega)]
  · rw [List.getElem?_eq_none (by rw [adjK_len]; omega), List.getElem?_eq_none (by rw [adjs_len]; omega)]
/-- What stands at the two ends ahead of a round, and behind it. -/
theorem adjK_up {p : Nat → Nat} (hp : Par p) {n k : Nat} (h : k + 1 < n) : (adjK p n k)[k + 1]? = some [] := by
  rw [adjK_get h, if_pos (.inr (Nat.lt_succ_self _))]
  congr 1
  rw [List.nil_append, List.filter_eq_nil_iff]
  intro c hc
  simp only [List.mem_range] at hc
  simp only [Bool.and_eq_true, decide_eq_true_eq]
  rintro ⟨h1, h2⟩
  have := hp c h1
  omega
theorem adjK_succ {p : Nat → Nat} (hp : Par p) {n k : Nat} (h : k + 1 < n) (l : List Nat) (hl : (adjK p n k)[p (k + 1)]? = some l) :
    ((adjK p n k).set (k + 1) [p (k + 1)]).set (p (k + 1)) (l ++ [k + 1]) = adjK p n (k + 1) := by
  have hpk := hp (k + 1) (Nat.succ_pos _)
  rw [adjK_get (by omega)] at hl
  cases hl
  apply List.ext_getElem?
  intro j
  by_cases hj : j < n
  · rw [adjK_get hj]
    have hr : (List.range (k + 1 + 1)).filter (fun c => decide (0 < c) && decide (p c = j)) = (List.range (k + 1)).filter (fun c => decide (0 < c) && decide (p c = j)) ++ (if p (k + 1) = j then [k + 1] else []) := by
      rw [List.range_succ, List.filter_append]
      by_cases hh : p (k + 1) = j <;> simp [hh]
    rw [hr]
    by_cases h1 : p (k + 1) = j
    · subst h1
      rw [List.getElem?_set_self (by simp [adjK_len]; omega), if_pos rfl]
      congr 1
      by_cases h0 : p (k + 1) = 0
      · simp [h0]
      · have e1 : ¬ (p (k + 1) = 0 ∨ k < p (k + 1)) := by omega
        have e2 : ¬ (p (k + 1) = 0 ∨ k + 1 < p (k + 1)) := by omega
        rw [if_neg e1, if_neg e2, List.append_assoc]
    · rw [List.getElem?_set_ne h1, if_neg h1]
      by_cases h2 : j = k + 1
      · subst h2
        rw [List.getElem?_set_self (by simp [adjK_len]; omega)]
        have h3 := adjK_up hp h
        rw [adjK_get h, if_pos (.inr (Nat.lt_succ_self _))] at h3
        simp only [List.nil_append, Option.some.injEq] at h3
        rw [h3, if_neg (by omega)]; rfl
      · rw [List.getElem?_set_ne (by omega), adjK_get hj]
        congr 2
        · by_cases h0 : j = 0
          · simp [h0]
          · by_cases h4 : k < j
            · rw [if_pos (.inr h4), if_pos (.inr (by omega))]
            · rw [if_neg (by omega), if_neg (by omega)]
        · simp
  · rw [List.getElem?_eq_none (by simp [adjK_len]; omega), List.getElem?_eq_none (by rw [adjK_len]; omega)]

/-! ### In memory -/
structure Bld (S : AS) (lo B t n : Nat) (vs : List AV) (adj : List (List Nat)) : Prop where
  tree : S.h.get t = some (.row [.slice B 0 0 n n 1 (some n)] 0 0 false 52)
  row : S.h.get B = some (.row vs 0 0 false 22)
  bt : B < lo
  tt : t < lo
  ne : B ≠ t
  hlo : lo ≤ S.next
  len : vs.length = n
  alen : adj.length = n
  own : ∀ (j : Nat) l, adj[j]? = some l → ∃ v, vs[j]? = some v ∧ Own S lo v 1 3 (ints l)
  apart : ∀ (j j' : Nat) v v', j ≠ j' → vs[j]? = some v → vs[j']? = some v' → bnd v = bnd v' → bnd v = 0
/-- One broker more among another's neighbours. -/
theorem Bld.add {S : AS} {lo B t n : Nat} {vs : List AV} {adj : List (List Nat)} (h : Bld S lo B t n vs adj) {j x : Nat} {l : List Nat} (hl : adj[j]? = some l) (hf : l.length ≤ 1000) :
    ∃ v v' T, loadT C0 S 22 (pAt (.slice B 0 0 n n 1 (some n)) j) = some v ∧
      loadT C0 (⟨S.h.set S.next (.row [.int .i64 x] 0 0 false 3), S.next + 1⟩ : AS) 22 (pAt (.slice B 0 0 n n 1 (some n)) j) = some v ∧
      builtinV C0 (⟨S.h.set S.next (.row [.int .i64 x] 0 0 false 3), S.next + 1⟩ : AS) .append [22, 22] [v, .slice S.next 0 0 1 1 1 (some 1)] = .val v' T ∧
      okV v = true ∧ cellsOf v' = some [v'] ∧ T.h.get t = some (.row [.slice B 0 0 n n 1 (some n)] 0 0 false 52) ∧
      wrV T (pAt (.slice B 0 0 n n 1 (some n)) j) [v'] = some ⟨T.h.set B (.row (vs.set j v') 0 0 false 22), T.next⟩ ∧
      Bld ⟨T.h.set B (.row (vs.set j v') 0 0 false 22), T.next⟩ lo B t n (vs.set j v') (adj.set j (l ++ [x])) ∧ S.next ≤ T.next ∧ (∀ id, id < lo → id ≠ B → T.h.get id = S.h.get id) := by
  obtain ⟨v, hv, hown⟩ := h.own j l hl
  have hj : j < n := by rw [← h.alen]; exact (List.getElem?_eq_some_iff.1 hl).1
  obtain ⟨v', T, e, o1, o2, o3, o4, o5, o6⟩ := append_one (cx := C0) (ts := []) (y := .int .i64 x) st22 rfl un22 rfl hown h.hlo (by rw [ints_len]; simp [fits, nble]; omega)
  have hBn : B < S.next := Nat.lt_of_lt_of_le h.bt h.hlo
  have htn : t < S.next := Nat.lt_of_lt_of_le h.tt h.hlo
  have sB : Sl S (.slice B 0 0 n n 1 (some n)) 1 vs := rd_row h.row (Nat.le_refl _) h.len hBn (by simp)
  have gB : T.h.get B = some (.row vs 0 0 false 22) := (o2.h B h.bt).trans h.row
  have gt : T.h.get t = some (.row [.slice B 0 0 n n 1 (some n)] 0 0 false 52) := (o2.h t h.tt).trans h.tree
  have hbv := hown.above
  refine ⟨v, v', T, loadT_sl sB hv ag22, loadT_sl (sB.sub (lo := S.next) (fun id hi => get_set_ne _ _ (by omega)) (Nat.le_succ _) sB.old) hv ag22, e, hown.sl.ok, o1.sl.cells, gt, wr_row gB h.len hj, ?_, o2.next, fun id hi _ => o2.h id hi⟩
  refine ⟨?_, get_set_same _ _ _, h.bt, h.tt, h.ne, Nat.le_trans h.hlo o2.next, by simp [h.len], by simp [h.alen], fun i li hi => ?_, fun i i' u u' hii hu hu' hb => ?_⟩
  · show (T.h.set B _).get t = _
    rw [get_set_ne _ _ (Ne.symm h.ne)]; exact gt
  · by_cases hij : i = j
    · subst hij
      rw [List.getElem?_set_self (by rw [h.alen]; exact hj)] at hi
      cases hi
      refine ⟨v', by rw [List.getElem?_set_self (by rw [h.len]; exact hj)], ?_⟩
      rw [ints_append]
      exact o1.keep (fun id h1 _ => get_set_ne _ _ (by have := h.bt; omega)) (Nat.le_refl _)
    · rw [List.getElem?_set_ne (Ne.symm hij)] at hi
      obtain ⟨u, hu, huo⟩ := h.own i li hi
      refine ⟨u, by rw [List.getElem?_set_ne (Ne.symm hij)]; exact hu, ?_⟩
      have hub := huo.above
      rcases huo with h0 | ⟨id, g, low, m, rfl, h1, h2, h3, h4, h5⟩
      · exact .inl h0
      · refine .inr ⟨id, g, low, m, rfl, h1, Nat.lt_of_lt_of_le h2 o2.next, ?_, h4, h5⟩
        show (T.h.set B _).get id = _
        rw [get_set_ne _ _ (by have := h.bt; omega), o3 id h2 ?_]
        · exact h3
        · intro hc
          have := h.apart i j _ _ hij hu hv hc
          simp [Am.bnd] at this
  · by_cases h1 : i = j
    · subst h1
      rw [List.getElem?_set_self (by rw [h.len]; exact hj)] at hu
      cases hu
      rw [List.getElem?_set_ne hii] at hu'
      rcases o6 with o6 | o6
      · rw [o6] at hb ⊢
        exact h.apart i i' v u' hii hv hu' hb
      · have hin : i' < adj.length := by rw [h.alen, ← h.len]; exact (List.getElem?_eq_some_iff.1 hu').1
        obtain ⟨u2, k1, k2⟩ := h.own i' adj[i'] (List.getElem?_eq_getElem hin)
        rw [hu'] at k1; cases k1
        rcases k2.above with hz | hz <;> omega
    · rw [List.getElem?_set_ne (Ne.symm h1)] at hu
      by_cases h2 : i' = j
      · subst h2
        rw [List.getElem?_set_self (by rw [h.len]; exact hj)] at hu'
        cases hu'
        rcases o6 with o6 | o6
        · rw [o6] at hb
          exact h.apart i i' u v hii hu hv hb
        · have hin : i < adj.length := by rw [h.alen, ← h.len]; exact (List.getElem?_eq_some_iff.1 hu).1
          obtain ⟨u2, k1, k2⟩ := h.own i adj[i] (List.getElem?_eq_getElem hin)
          rw [hu] at k1; cases k1
          rcases k2.above with hz | hz <;> omega
      · rw [List.getElem?_set_ne (Ne.symm h2)] at hu'
        exact h.apart i i' u u' hii hu hu' hb

/-! ### 'New' -/
/-- Which parents may be. -/
structure Valid (l : List Int) : Prop where
  lo : 1 ≤ l.length
  hi : l.length ≤ 64
  head : l[0]? = some (-1)
  up : ∀ k, k + 1 < l.length → ∃ x : Nat, l[k + 1]? = some (x : Int) ∧ x ≤ k
def parOf (l : List Int) (i : Nat) : Nat := if i = 0 then 0 else (l.getD i 0).toNat
theorem Valid.par {l : List Int} (h : Valid l) : Par (parOf l) := by
  intro i hi
  unfold parOf
  rw [if_neg (by omega)]
  by_cases hl : i < l.length
  · obtain ⟨k, rfl⟩ : ∃ k, i = k + 1 := ⟨i - 1, by omega⟩
    obtain ⟨x, h1, h2⟩ := h.up k hl
    rw [List.getD_eq_getElem?_getD, h1]; simp; omega
  · rw [List.getD_eq_getElem?_getD, List.getElem?_eq_none (by omega)]; simp; omega
theorem Valid.at_ {l : List Int} (h : Valid l) {k : Nat} (hk : k + 1 < l.length) : l[k + 1]? = some (parOf l (k + 1) : Int) := by
  obtain ⟨x, h1, h2⟩ := h.up k hk
  rw [h1]
  unfold parOf
  rw [if_neg (by omega), List.getD_eq_getElem?_getD, h1]; simp

theorem fn9 : C0.fns.get 9 = some Try.f9 := by kernel_rfl
theorem ok9 : codeOk C0 Try.f9.ntmps (Try.f9.body.getD .skip) = true := by kernel_rfl
theorem nt9 : Try.f9.ntmps = 78 := by kernel_rfl
theorem sz22 : szOf C0 22 = some 1 := by kernel_rfl
theorem ze22 : zeroOf C0 22 = some .nils := by kernel_rfl
theorem ze52 : zeroOf C0 52 = some (.agg [.nils]) := by kernel_rfl
theorem bu52 (v : AV) (h : cellsOf v = some [v]) : buildA C0 52 [(0, v)] = some (.agg [v]) := by
  have e : ∀ o, (match (match o with | some cs => some cs | none => none : Option (List AV)) with | some cs => some (AV.agg cs) | none => none) = (match o with | some cs => some (AV.agg cs) | none => none) := fun o => by cases o <;> rfl
  have : buildA C0 52 [(0, v)] = (match fillA (fun i => nth i [(0, 1)]) [(0, v)] [.nils] with | some cells => some (.agg cells) | none => none) := by kernel_rfl
  rw [this]
  simp [fillA, h, nth, spliceL, nbeq, nble]
/-- All of a tree's blocks lie above. -/
structure TrA (lo t : Nat) (vb : AV) (vs : List AV) : Prop where
  t : lo ≤ t
  vb : lo < bnd vb
  vs : ∀ (k : Nat) v, vs[k]? = some v → bnd v = 0 ∨ lo < bnd v
def newI (S : AS) (l : List Int) (w : AV) (m : Nat) (F' : Fr) (S' : AS) : Prop := ∃ k vs, Bld S' (S.next + 2) S.next (S.next + 1) l.length vs (adjK (parOf l) l.length k) ∧ Sub S S' ∧ sl F' 4 = .ptr (S.next + 1) 0 0 1 ∧ sl F' 27 = w ∧ sl F' 28 = .int .i64 (l.length - 1 : Nat) ∧ sl F' 29 = .int .i64 k ∧ k ≤ l.length - 1 ∧ m = l.length - 1 - k
set_option maxHeartbeats 2000000 in
theorem newA {S : AS} {u : AV} {l : List Int} (hu : Sl S u 1 (intZ l)) (hv : Valid l) : CallW C0 9 [u] S fun v T => ∃ t vb vs, v = .tuple [.ptr t 0 0 1, .int .i64 0] ∧ TrP T t vb vs (adjs (parOf l) l.length) ∧ Sub S T ∧ TrA S.next t vb vs := by
  refine enterW (pu0 _) (pr0 _ rfl) fn9 rfl ok9 (by simp) fun F hn hs => ?_
  rw [nt9] at hn
  have s0 := hs 0
  clear hs
  simp only [List.getElem?_cons_zero, Option.getD_some] at s0
  have u1 := hu.sl
  have u2 : sLen u = l.length := by rw [hu.len1, intZ_len]
  obtain ⟨v1, v2, v3, v4⟩ := hv
  have c1 : ¬ (l.length : Int) < 1 := by omega
  have c2 : ¬ (64 : Int) < l.length := by omega
  have c3 : 0 < l.length := by omega
  have h0 : (intZ l)[0]? = some (.int .i64 (-1)) := by rw [intZ, List.getElem?_map, v3]; rfl
  have l0 := loadT_sl (cx := C0) (e := 3) hu h0 ag3
  have hfit : fits l.length 24 = true := by simp [fits, nble]; omega
  have bu := bu52 (.slice S.next 0 0 l.length l.length 1 (some l.length)) rfl
  have hp : Par (parOf l) := (Valid.mk v1 v2 v3 v4).par
  have w1 := hu.cut (l := 1) (k := sLen u) (by omega) (Nat.le_refl _)
  have w2 := subA_len hu (l := 1) (k := sLen u) (by omega) (Nat.le_refl _)
  rw [u2] at w1 w2
  have w3 := w1.sl
  have hk0 : ((l.length - 1 : Nat) : Int) = (l.length : Int) - 1 := by omega
  simp [s0, u1, u2, st22, st50, c1, c2, c3, l0, ag3, ze22, ze52, hfit, bu, natOf, v1, w2, w3]
  have hval := Valid.mk v1 v2 v3 v4
  generalize hw : subA u 1 l.length = w at w1 w2 w3
  refine loopP_of (newI S l w) (l.length - 1) ?_ ?_
  · refine ⟨0, List.replicate l.length .nils, ⟨?_, ?_, by omega, by omega, by omega, by simp, by simp, by rw [adjK_len], ?_, ?_⟩, ?_, by simp, by simp [hw], by simp, by simp, by omega, by omega⟩
    · simp
    · simp
    · intro j l' hl'
      rw [adjK_zero] at hl'
      rw [List.getElem?_replicate] at hl' ⊢
      split at hl'
      · rename_i hj
        cases hl'
        exact ⟨.nils, by simp [hj], Own.nil⟩
      · cases hl'
    · intro j j' v v' _ hv' _ _
      rw [List.getElem?_replicate] at hv'
      split at hv'
      · cases hv'; rfl
      · cases hv'
    · exact ((Sub.refl S).set _ _ (Nat.le_refl _) _ (Nat.le_succ _)).set _ _ (by omega) _ (by simp)
  · rintro m F' S' hn' ⟨k, vs, hB, hsub, r4, r27, r28, r29, hk, hm⟩
    have hn2 : F'.n = 78 := by rw [hn']; simp [hn]
    clear hn' s0 hn
    have w1' := w1.toSub hsub
    by_cases hkl : k < l.length - 1
    · have hk1 : k + 1 < l.length := by omega
      have hat := hval.at_ hk1
      have hpk := hp (k + 1) (Nat.succ_pos _)
      have hx : ((intZ l).drop (1 * 1)).take ((l.length - 1) * 1) = intZ (l.drop 1) := by
        rw [Nat.mul_one, Nat.mul_one, intZ, intZ, List.map_drop, List.take_of_length_le (by simp)]
      rw [hx] at w1'
      have hg : (intZ (l.drop 1))[k]? = some (.int .i64 (parOf l (k + 1) : Nat)) := by
        rw [intZ, List.getElem?_map, List.getElem?_drop, Nat.add_comm 1 k, hat]; rfl
      have l1 := loadT_sl (cx := C0) (e := 3) w1' hg ag3
      obtain ⟨va, va', Ta, a1, a2, a3, a4, a5, a6, a7, a8, a9, a10⟩ := hB.add (x := parOf l (k + 1)) (adjK_up hp hk1) (by simp)
      obtain ⟨lp, hlp⟩ : ∃ lp, (adjK (parOf l) l.length k)[parOf l (k + 1)]? = some lp := ⟨_, adjK_get (by omega)⟩
      have hlp' : ((adjK (parOf l) l.length k).set (k + 1) ([] ++ [parOf l (k + 1)]))[parOf l (k + 1)]? = some lp := by
        rw [List.getElem?_set_ne (by omega)]; exact hlp
      have hlpl : lp.length ≤ 1000 := by
        rw [adjK_get (by omega)] at hlp
        cases hlp
        rw [List.length_append]
        have h1 : ((List.range (k + 1)).filter fun c => decide (0 < c) && decide (parOf l c = parOf l (k + 1))).length ≤ k + 1 := by
          have := List.length_filter_le (fun c => decide (0 < c) && decide (parOf l c = parOf l (k + 1))) (List.range (k + 1))
          simpa using this
        have h2 : (if parOf l (k + 1) = 0 ∨ k < parOf l (k + 1) then ([] : List Nat) else [parOf l (parOf l (k + 1))]).length ≤ 1 := by split <;> simp
        omega
      obtain ⟨vb, vb', Tb, b1, b2, b3, b4, b5, b6, b7, b8, b9, b10⟩ := a8.add (x := k + 1) hlp' hlpl
      have ek : ((k + 1 : Nat) : Int) = (k : Int) + 1 := by omega
      rw [ek] at b2 b3
      have t0 := hB.tree
      have ta := a8.tree
      have hne : S.next + 1 ≠ S.next := by omega
      have hkw : IntKind.i64.wrap ((k : Int) + 1) = ((k + 1 : Nat) : Int) := wrap_succ (by omega)
      have hkz : (0 : Int) ≤ (k : Int) + 1 := by omega
      have hkz' : (k : Int) + 1 < l.length := by omega
      have q1 : ¬ ((parOf l (k + 1) : Nat) : Int) < 0 := by omega
      have q2 : ¬ ((k : Int) < ((parOf l (k + 1) : Nat) : Int)) := by omega
      have q3 : parOf l (k + 1) < l.length := by omega
      have hlo := hB.hlo
      have hlo2 := a8.hlo
      have n1 : ¬ S.next + 1 = S'.next := by omega
      have n2 : ¬ S.next + 1 = Ta.next := by have : S.next + 2 ≤ Ta.next := hlo2; omega
      simp [r4, r27, r28, r29, hkl, w2, w3, st22, l1, ag3, q1, q2]
      refine drawn_forget [4, 5, 6, 27, 28, 29] fun G hn3 hag => ?_
      simp [r4, r27, r28, r29] at hag
      obtain ⟨r4', r5, r6, r27', r28', r29'⟩ := hag
      have hn4 : G.n = 78 := by rw [hn3]; simp [hn2]
      clear hn3
      refine draws [.p, .p, .p, .r 0 2, .p, .p, .p, .p, .p, .r 0 1, .p, .p, .p, .r 0 1, .p, .e [], .e [], .p, .e []] (n := 78) (by kernel_rfl) hn4 ?_
      simp [r4', r5, r6, r27', r28', r29', st22, st50, ag50, ag22, fa52, sz22, t0, n1, hkw, hkz, hkz', a1, a2, a3, a4, a5, a6, a7]
      refine drawn_forget [4, 5, 6, 27, 28, 29] fun H hn5 hag => ?_
      simp [r4', r5, r6, r27', r28', r29'] at hag
      obtain ⟨r4, r5, r6, r27, r28, r29⟩ := hag
      have hn6 : H.n = 78 := by rw [hn5]; simp [hn4]
      clear hn5 r4' r27' r28' r29'
      refine draws [.p, .p, .p, .r 0 2, .p, .p, .p, .p, .r 0 1, .p, .p, .r 0 1, .p, .p, .e [], .e [], .p, .e []] (n := 78) (by kernel_rfl) hn6 ?_
      simp [r4, r5, r6, r27, r28, r29, st22, st50, ag50, ag22, fa52, sz22, ta, n1, n2, hkw, hkz, hkz', q3, b1, b2, b3, b4, b5, b6, b7]
      refine ⟨l.length - 1 - (k + 1), by omega, k + 1, (vs.set (k + 1) va').set (parOf l (k + 1)) vb', ?_, ?_, by simp [r4], by simp [r27], by simp [r28], by simp [hkw], by omega, rfl⟩
      · have h2 := b8
        rw [List.nil_append, adjK_succ hp hk1 lp hlp] at h2
        exact h2
      · refine ⟨fun id hid => ?_, Nat.le_trans hsub.next (Nat.le_trans a9 b9)⟩
        show (Tb.h.set S.next _).get id = _
        rw [get_set_ne _ _ (by omega), b10 id (by omega) (by omega)]
        show (Ta.h.set S.next _).get id = _
        rw [get_set_ne _ _ (by omega), a10 id (by omega) (by omega)]
        exact hsub.h id hid
    · obtain rfl : k = l.length - 1 := by omega
      have hT : TrP S' (S.next + 1) (.slice S.next 0 0 l.length l.length 1 (some l.length)) vs (adjs (parOf l) l.length) := by
        rw [← adjK_full _ _ c3]
        have h1 := hB.hlo
        exact ⟨by omega, hB.tree, rd_row hB.row (Nat.le_refl _) hB.len (by omega) (by simp), by rw [hB.len, adjK_len], fun j l' hj => let ⟨v, g1, g2⟩ := hB.own j l' hj; ⟨v, g1, g2.sl⟩⟩
      have hA : TrA S.next (S.next + 1) (.slice S.next 0 0 l.length l.length 1 (some l.length)) vs := by
        refine ⟨Nat.le_succ _, by simp [bnd], fun j v hj => ?_⟩
        have hjl : j < (adjK (parOf l) l.length (l.length - 1)).length := by rw [adjK_len, ← hB.len]; exact (List.getElem?_eq_some_iff.1 hj).1
        obtain ⟨v', g1, g2⟩ := hB.own j _ (List.getElem?_eq_getElem hjl)
        rw [hj] at g1; cases g1
        rcases g2.above with h | h
        · exact .inl h
        · exact .inr (by omega)
      simp [r4, r27, r28, r29, hsub]
      exact ⟨_, _, hT, hA⟩
theorem new {S : AS} {u : AV} {l : List Int} (hu : Sl S u 1 (intZ l)) (hv : Valid l) : CallW C0 9 [u] S fun v T => ∃ t vb vs, v = .tuple [.ptr t 0 0 1, .int .i64 0] ∧ TrP T t vb vs (adjs (parOf l) l.length) ∧ Sub S T :=
  (newA hu hv).mono fun v T ⟨t, vb, vs, h1, h2, h3, _⟩ => ⟨t, vb, vs, h1, h2, h3⟩
end Go.Proofs.Ytpjebmdeaieniaa.tree
