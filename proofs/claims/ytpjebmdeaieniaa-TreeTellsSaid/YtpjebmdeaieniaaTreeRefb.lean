/-
  The reference's ways.
-/
import Derived.Test.YtpjebmdeaieniaaTreeRef
namespace Go.Proofs.Ytpjebmdeaieniaa.tree
open Go Go.Am
set_option linter.unusedVariables false
set_option linter.unusedSimpArgs false

theorem fn16 : C0.fns.get 16 = some Try.f16 := by kernel_rfl
theorem ok16 : codeOk C0 Try.f16.ntmps (Try.f16.body.getD .skip) = true := by kernel_rfl
theorem nt16 : Try.f16.ntmps = 78 := by kernel_rfl
def trimI (S2 : AS) (U D : List Nat) (i j : Nat) (k : Nat) (F' : Fr) (S' : AS) : Prop := ∃ x y, S' = S2 ∧ Sl S2 (sl F' 7) 1 (ints (U.take x)) ∧ Sl S2 (sl F' 8) 1 (ints (D.take y)) ∧ i ≤ x ∧ j ≤ y ∧ x ≤ U.length ∧ y ≤ D.length ∧ x - i = y - j ∧ k = x - i
/-- Behind the last generation: an old one reads on. -/
def backI (S2 : AS) (lo : Nat) (dv : AV) (W D : List Nat) (y : Nat) (k : Nat) (F' : Fr) (S' : AS) : Prop := Stay lo S2 S' ∧ sl F' 8 = dv ∧ ∃ z : Nat, z ≤ y - 1 ∧ Own S' lo (sl F' 9) 1 3 (ints (W ++ ((D.take (y - 1)).drop z).reverse)) ∧ sl F' 10 = .int .i64 ((z : Int) - 1) ∧ k = z
theorem meet_more {U D w : List Nat} {i j : Nat} (m : Meet U D w i j) {x y : Nat} (hx : i < x) (hxy : x - i = y - j) (hxu : x ≤ U.length) (hyd : y ≤ D.length) (hj : j ≤ y) : U[x - 2]? = D[y - 2]? := by
  have h := congrArg (fun l => l[x - 1 - i]?) m.same
  simp only [List.getElem?_drop] at h
  have h1 := m.i1
  have h2 := m.j1
  rw [show i - 1 + (x - 1 - i) = x - 2 by omega, show j - 1 + (x - 1 - i) = y - 2 by omega] at h
  exact h

set_option maxHeartbeats 2000000 in
theorem rpath {S : AS} {ri : Nat} {pv : AV} {l : List Int} (hv : Valid l) (h : RefP S ri pv l) (a b : Int) :
    CallW C0 16 [.ptr ri 0 0 1, .int .i64 a, .int .i64 b] S fun v T => Sub S T ∧ Sl T v 1 (ints (wayZ (parOf l) l.length a b)) := by
  refine enterW (pu0 _) (pr0 _ rfl) fn16 rfl ok16 (by simp) fun F hn hs => ?_
  rw [nt16] at hn
  have s0 := hs 0
  have s1 := hs 1
  have s2 := hs 2
  clear hs
  simp only [List.getElem?_cons_zero, List.getElem?_cons_succ, Option.getD_some] at s0 s1 s2
  have hp := hv.par
  have hn64 := hv.hi
  unfold wayZ inT
  by_cases a1 : 0 ≤ a
  · by_cases a2 : a < l.length
    · by_cases b1 : 0 ≤ b
      · by_cases b2 : b < l.length
        · obtain ⟨x0, rfl⟩ : ∃ x : Nat, a = x := ⟨a.toNat, by omega⟩
          obtain ⟨y0, rfl⟩ : ∃ y : Nat, b = y := ⟨b.toNat, by omega⟩
          have hx0 : x0 < l.length := by omega
          have hy0 : y0 < l.length := by omega
          obtain ⟨uv, S1, ⟨u1, u2⟩, e1⟩ := (rups hv h hx0).ex
          obtain ⟨dv, S2, ⟨d1, d2⟩, e2⟩ := (rups hv (h.sub u1) hy0).ex
          obtain ⟨i, j, m⟩ := meet hp x0 y0
          have hUl := ups_len hp x0
          have hDl := ups_len hp y0
          generalize hU : ups (parOf l) x0 = U at u2 m hUl
          generalize hD : ups (parOf l) y0 = D at d2 m hDl
          have hcond : (inT l.length (x0 : Int) ∧ inT l.length (y0 : Int)) := ⟨⟨by omega, by omega⟩, ⟨by omega, by omega⟩⟩
          simp [s0, s1, s2, ex0, callRis h, hx0, hy0, e1, e2]
          refine loopP_of (trimI S2 U D i j) (U.length - i) ⟨U.length, D.length, rfl, ?_, ?_, m.iu, m.jd, Nat.le_refl _, Nat.le_refl _, ?_, rfl⟩ ?_
          · rw [List.take_length]; simpa using (u2.sub d1).sl
          · rw [List.take_length]; simpa using d2.sl
          · have h4 := congrArg List.length m.same
            have h5 := m.i1
            have h6 := m.j1
            have h7 := m.iu
            have h8 := m.jd
            simp at h4
            omega
          · rintro k F' S' hn' ⟨x, y, rfl, r7, r8, hx, hy, hxu, hyd, hxy, hk⟩
            have hn2 : F'.n = 78 := by rw [hn']; simp [hn]
            clear hn' s0 s1 s2 hn
            have hi1 := m.i1
            have hj1 := m.j1
            generalize hv7 : sl F' 7 = v7 at r7
            generalize hv8 : sl F' 8 = v8 at r8
            have c1 := r7.sl
            have c2 : sLen v7 = x := by rw [r7.len1, ints_len, List.length_take]; omega
            have g1 := r8.sl
            have g2 : sLen v8 = y := by rw [r8.len1, ints_len, List.length_take]; omega
            have ok7 := r7.ok
            have ok8 := r8.ok
            by_cases hxi : i < x
            · have k1 : (1 : Int) < x := by omega
              have k2 : (1 : Int) < y := by omega
              obtain ⟨q, hq⟩ : ∃ q, U[x - 2]? = some q := ⟨_, List.getElem?_eq_getElem (by omega)⟩
              have hq2 : D[y - 2]? = some q := by rw [← meet_more m hxi hxy hxu hyd hy]; exact hq
              have l1 := loadT_sl (cx := C0) (e := 3) r7 (ints_get (k := x - 2) (n := q) (by rw [List.getElem?_take, if_pos (by omega)]; exact hq)) ag3
              have l2 := loadT_sl (cx := C0) (e := 3) r8 (ints_get (k := y - 2) (n := q) (by rw [List.getElem?_take, if_pos (by omega)]; exact hq2)) ag3
              have w1 : IntKind.i64.wrap ((x : Int) - 2) = ((x - 2 : Nat) : Int) := by rw [IntWalk.i64_in _ (by omega)]; omega
              have w2 : IntKind.i64.wrap ((y : Int) - 2) = ((y - 2 : Nat) : Int) := by rw [IntWalk.i64_in _ (by omega)]; omega
              have w3 : IntKind.i64.wrap ((x : Int) - 1) = ((x - 1 : Nat) : Int) := by rw [IntWalk.i64_in _ (by omega)]; omega
              have w4 : IntKind.i64.wrap ((y : Int) - 1) = ((y - 1 : Nat) : Int) := by rw [IntWalk.i64_in _ (by omega)]; omega
              have z1 : x - 2 < x := by omega
              have z2 : y - 2 < y := by omega
              have z3 : x - 1 ≤ x := by omega
              have z4 : y - 1 ≤ y := by omega
              have cu := r7.cut (l := 0) (k := x - 1) (by omega) (by omega)
              have cd := r8.cut (l := 0) (k := y - 1) (by omega) (by omega)
              simp
              refine still_ok (n := 78) (by kernel_rfl) (by simp [hn2]) ?_
              simp [hv7, hv8, st22, c1, c2, g1, g2, ok7, ok8, k1, k2, w1, w2, w3, w4, z1, z2, z3, z4, l1, l2, ag3]
              refine ⟨x - 1 - i, by omega, x - 1, y - 1, rfl, ?_, ?_, by omega, by omega, by omega, by omega, by omega, rfl⟩
              · simp
                have e : ((ints (U.take x)).drop (0 * 1)).take ((x - 1 - 0) * 1) = ints (U.take (x - 1)) := by
                  simp [ints, ← List.map_take, List.take_take]
                rw [e] at cu; exact cu
              · simp
                have e : ((ints (D.take y)).drop (0 * 1)).take ((y - 1 - 0) * 1) = ints (D.take (y - 1)) := by
                  simp [ints, ← List.map_take, List.take_take]
                rw [e] at cd; exact cd
            · obtain rfl : x = i := by omega
              obtain rfl : y = j := by omega
              have wl : (way (parOf l) x0 y0).length ≤ 200 := by have := way_len hp x0 y0; omega
              obtain ⟨wv, T, e3, o1, o2, _, _, _, _⟩ := append_own (cx := C0) (S := S') (lo := S'.next) (ts := []) (v := .nils) (x := v7) st22 un22 rfl Own.nil (Nat.le_refl _) r7 (by rw [sLen_nils, c2]; simp [fits, nble]; omega)
              rw [List.nil_append] at o1
              have w2 : IntKind.i64.wrap ((y : Int) - 2) = (y : Int) - 2 := IntWalk.i64_in _ (by omega)
              have fin : ∀ (F3 : Fr), F3.n = 78 → sl F3 8 = v8 → sl F3 9 = wv → sl F3 10 = .int .i64 ((y : Int) - 2) → backI T S'.next v8 (U.take x) D y (y - 1) F3 T := by
                intro F3 _ h8 h9 h10
                refine ⟨Stay.refl, h8, y - 1, Nat.le_refl _, ?_, ?_, rfl⟩
                · rw [h9]
                  have : ((D.take (y - 1)).drop (y - 1)).reverse = [] := by
                    rw [List.drop_eq_nil_of_le (by simp; omega)]; rfl
                  rw [this, List.append_nil]; exact o1
                · rw [h10]; congr 1; omega
              have round : ∀ (k2 : Nat) (F4 : Fr) (S4 : AS), backI T S'.next v8 (U.take x) D y k2 F4 S4 → ∃ z : Nat, z ≤ y - 1 ∧ k2 = z ∧ sl F4 10 = .int .i64 ((z : Int) - 1) ∧ sl F4 8 = v8 ∧ Stay S'.next T S4 ∧
                  Own S4 S'.next (sl F4 9) 1 3 (ints (U.take x ++ ((D.take (y - 1)).drop z).reverse)) ∧ Sl S4 v8 1 (ints (D.take y)) := by
                rintro k2 F4 S4 ⟨t1, t2, z, t3, t4, t5, t6⟩
                exact ⟨z, t3, t6, t5, t2, t1, t4, r8.stay (o2.trans t1) r8.old⟩
              have step : ∀ (z : Nat) (S4 : AS) (v9 : AV), z + 1 ≤ y - 1 → Own S4 S'.next v9 1 3 (ints (U.take x ++ ((D.take (y - 1)).drop (z + 1)).reverse)) → Sl S4 v8 1 (ints (D.take y)) → Stay S'.next T S4 →
                  ∃ (q : Nat) (v' : AV) (T' : AS), loadT C0 S4 3 (pAt v8 z) = some (.int .i64 q) ∧ builtinV C0 ⟨S4.h.set S4.next (.row [.int .i64 q] 0 0 false 3), S4.next + 1⟩ .append [22, 22] [v9, .slice S4.next 0 0 1 1 1 (some 1)] = .val v' T' ∧
                    Own T' S'.next v' 1 3 (ints (U.take x ++ ((D.take (y - 1)).drop z).reverse)) ∧ Stay S'.next S4 T' := by
                intro z S4 v9 hz ho hs hst
                obtain ⟨q, hq⟩ : ∃ q, D[z]? = some q := ⟨_, List.getElem?_eq_getElem (by omega)⟩
                have l1 := loadT_sl (cx := C0) (e := 3) hs (ints_get (k := z) (n := q) (by rw [List.getElem?_take, if_pos (by omega)]; exact hq)) ag3
                have hlen : (ints (U.take x ++ ((D.take (y - 1)).drop (z + 1)).reverse)).length ≤ 300 := by
                  rw [ints_len, List.length_append, List.length_reverse, List.length_drop, List.length_take, List.length_take]; omega
                obtain ⟨v', T', e, p1, p2, _⟩ := append_one (cx := C0) (ts := []) (y := .int .i64 (q : Nat)) st22 rfl un22 rfl ho (Nat.le_trans o2.next hst.next) (by simp [fits, nble]; omega)
                refine ⟨q, v', T', l1, e, ?_, p2⟩
                have e2 : (D.take (y - 1)).drop z = q :: (D.take (y - 1)).drop (z + 1) := by
                  rw [List.drop_eq_getElem_cons (by simp; omega)]
                  congr 1
                  rw [List.getElem_take]
                  exact (List.getElem?_eq_some_iff.1 hq).2
                rw [e2, List.reverse_cons, ← List.append_assoc, ints_append (_ ++ _) [q]]
                exact p1
              have hway := m.way
              simp
              refine drawnP_mono (fun G T => T = S' ∧ G.n = 78 ∧ sl G 7 = v7 ∧ sl G 8 = v8 ∧ sl G 49 = .bool false) ?_ ?_
              · refine still_ok (n := 78) (by kernel_rfl) (by simp [hn2]) ?_
                by_cases k1 : (1 : Int) < x
                · by_cases k2 : (1 : Int) < y
                  · obtain ⟨q, hq⟩ : ∃ q, U[x - 2]? = some q := ⟨_, List.getElem?_eq_getElem (by omega)⟩
                    obtain ⟨q2, hq2⟩ : ∃ q, D[y - 2]? = some q := ⟨_, List.getElem?_eq_getElem (by omega)⟩
                    have hne : ¬ ((q : Int) = (q2 : Int)) := by
                      intro e
                      have e' : q = q2 := by omega
                      subst e'
                      rcases m.stop with h1 | h1 | h1
                      · omega
                      · omega
                      · exact h1 (hq.trans hq2.symm)
                    have l1 := loadT_sl (cx := C0) (e := 3) r7 (ints_get (k := x - 2) (n := q) (by rw [List.getElem?_take, if_pos (by omega)]; exact hq)) ag3
                    have l2 := loadT_sl (cx := C0) (e := 3) r8 (ints_get (k := y - 2) (n := q2) (by rw [List.getElem?_take, if_pos (by omega)]; exact hq2)) ag3
                    have w1 : IntKind.i64.wrap ((x : Int) - 2) = ((x - 2 : Nat) : Int) := by rw [IntWalk.i64_in _ (by omega)]; omega
                    have w3 : IntKind.i64.wrap ((y : Int) - 2) = ((y - 2 : Nat) : Int) := by rw [IntWalk.i64_in _ (by omega)]; omega
                    have z1 : x - 2 < x := by omega
                    have z2 : y - 2 < y := by omega
                    simp [hv7, hv8, st22, c1, c2, g1, g2, ok7, ok8, k1, k2, w1, w3, z1, z2, l1, l2, ag3, hne, hn2]
                  · simp [hv7, hv8, st22, c1, c2, g1, g2, ok7, ok8, k1, k2, hn2]
                · simp [hv7, hv8, st22, c1, c2, g1, g2, ok7, ok8, k1, hn2]
              · rintro G T0 ⟨rfl, hn5, h7, h8, h49⟩
                simp [h7, h8, h49, st22, c1, c2, g1, g2, e3, w2]
                refine loopP_of (backI T T0.next v8 (U.take x) D y) (y - 1) (fin _ (by simp [hn5]) (by simp [h8]) (by simp) (by simp)) ?_
                intro k2 F4 S4 hn6 hback
                obtain ⟨z, t1, rfl, t3, t4, t5, t6, t7⟩ := round k2 F4 S4 hback
                generalize hv9 : sl F4 9 = v9 at t6
                cases k2 with
                | zero =>
                  simp [t3]
                  simp [t4, hv9, t6.sl.np]
                  refine ⟨(u1.trans d1).trans (o2.trans t5).sub, ?_⟩
                  rw [hway]
                  simpa using t6.sl
                | succ z =>
                  obtain ⟨q, v', T', p1, p2, p3, p4⟩ := step z S4 v9 t1 t6 t7 t5
                  have e10 : ((z + 1 : Nat) : Int) - 1 = (z : Int) := by omega
                  rw [e10] at t3
                  have w5 : IntKind.i64.wrap ((z : Int) - 1) = (z : Int) - 1 := IntWalk.i64_in _ (by omega)
                  have z3 : z < y := by omega
                  simp [t3, t4, hv9, st22, g1, g2, z3, p1, p2, ag3, w5]
                  refine ⟨z, by omega, t5.trans p4, by simp [t4], z, by omega, by simpa using p3, by simp, rfl⟩
        · simp [s0, s1, s2, ex0, callRis h, a1, a2, b1, b2, ints, Sl.nil, Sub.refl]
      · simp [s0, s1, s2, ex0, callRis h, a1, a2, b1, ints, Sl.nil, Sub.refl]
    · simp [s0, s1, s2, ex0, callRis h, a1, a2, ints, Sl.nil, Sub.refl]
  · simp [s0, s1, s2, ex0, callRis h, a1, ints, Sl.nil, Sub.refl]

/-! ### 'Next', 'Side', 'Neighbours' -/
theorem fn12 : C0.fns.get 12 = some Try.f12 := by kernel_rfl
theorem ok12 : codeOk C0 Try.f12.ntmps (Try.f12.body.getD .skip) = true := by kernel_rfl
theorem rnext {S : AS} {ri : Nat} {pv : AV} {l : List Int} (hv : Valid l) (h : RefP S ri pv l) (a b : Int) :
    CallW C0 12 [.ptr ri 0 0 1, .int .i64 a, .int .i64 b] S fun v T => v = nextO (nxZ (parOf l) l.length a b) ∧ Sub S T := by
  refine enterW (pu0 _) (pr0 _ rfl) fn12 rfl ok12 (by simp) fun F hn hs => ?_
  have s0 := hs 0
  have s1 := hs 1
  have s2 := hs 2
  clear hs
  simp only [List.getElem?_cons_zero, List.getElem?_cons_succ, Option.getD_some] at s0 s1 s2
  obtain ⟨w, T, ⟨r1, r2⟩, e⟩ := (rpath hv h a b).ex
  unfold nxZ
  generalize wayZ (parOf l) l.length a b = W at r2
  have w1 := r2.sl
  have w2 : sLen w = W.length := by rw [r2.len1, ints_len]
  cases hW : W[1]? with
  | none =>
    have hl : W.length < 2 := by
      rw [List.getElem?_eq_none_iff] at hW; omega
    have hl' : (W.length : Int) < 2 := by omega
    simp [s0, s1, s2, ex0, e, st22, w1, w2, hl', r1, nextO]
  | some y =>
    have hl : 1 < W.length := (List.getElem?_eq_some_iff.1 hW).1
    have hl' : ¬ (W.length : Int) < 2 := by omega
    have hl2 : (1 : Int) < W.length := by omega
    have hx := loadT_sl (cx := C0) (e := 3) r2 (ints_get hW) ag3
    simp [s0, s1, s2, ex0, e, st22, w1, w2, hl', hl2, hx, ag3, r1, nextO]

theorem fn18 : C0.fns.get 18 = some Try.f18 := by kernel_rfl
theorem ok18 : codeOk C0 Try.f18.ntmps (Try.f18.body.getD .skip) = true := by kernel_rfl
theorem nt18 : Try.f18.ntmps = 38 := by kernel_rfl
def rsideI (S : AS) (ri : Nat) (p : Nat → Nat) (n : Nat) (a o : Int) (k : Nat) (F' : Fr) (S' : AS) : Prop := ∃ j : Nat, Sub S S' ∧ sl F' 0 = .ptr ri 0 0 1 ∧ sl F' 1 = .int .i64 a ∧ sl F' 2 = .int .i64 o ∧ Own S' S.next (sl F' 7) 1 3 (ints ((List.range j).filter (over p n a o))) ∧ sl F' 8 = .int .i64 j ∧ j ≤ n ∧ k = n - j
theorem rside {S : AS} {ri : Nat} {pv : AV} {l : List Int} (hv : Valid l) (h : RefP S ri pv l) (a o : Int) :
    CallW C0 18 [.ptr ri 0 0 1, .int .i64 a, .int .i64 o] S fun v T => Sub S T ∧ Own T S.next v 1 3 (ints (sideZ (parOf l) l.length a o)) := by
  refine enterW (pu0 _) (pr0 _ rfl) fn18 rfl ok18 (by simp) fun F hn hs => ?_
  rw [nt18] at hn
  have s0 := hs 0
  have s1 := hs 1
  have s2 := hs 2
  clear hs
  simp only [List.getElem?_cons_zero, List.getElem?_cons_succ, Option.getD_some] at s0 s1 s2
  have hn64 := hv.hi
  simp [s0, s1, s2]
  refine loopP_of (rsideI S ri (parOf l) l.length a o) l.length ⟨0, Sub.refl S, by simp [s0], by simp [s1], by simp [s2], by simpa [ints] using Own.nil, by simp, by omega, by omega⟩ ?_
  rintro k F' S' hn' ⟨j, hsub, r0, r1, r2, r7, r8, hj, hk⟩
  have h' := h.sub hsub
  have h1 := h'.at_
  have h2 := h'.sl.sl
  have h3 : sLen pv = l.length := by rw [h'.sl.len1, intZ_len]
  generalize hv7 : sl F' 7 = v7 at r7
  by_cases hjl : j < l.length
  · have hwj : IntKind.i64.wrap ((j : Int) + 1) = ((j + 1 : Nat) : Int) := wrap_succ (by omega)
    obtain ⟨v, T, ⟨rfl, t1⟩, e⟩ := (rnext hv h' a j).ex
    have hfil : (List.range (j + 1)).filter (over (parOf l) l.length a o) = (List.range j).filter (over (parOf l) l.length a o) ++ (if over (parOf l) l.length a o j = true then [j] else []) := by
      rw [List.range_succ, List.filter_append]
      by_cases hh : over (parOf l) l.length a o j = true
      · simp [hh]
      · simp [hh]
    have hle : (ints ((List.range j).filter (over (parOf l) l.length a o))).length ≤ j := by
      rw [ints_len]
      have := List.length_filter_le (over (parOf l) l.length a o) (List.range j)
      simpa using this
    have hT7 := r7.sub t1
    cases hnx : nxZ (parOf l) l.length a j with
    | none =>
      have ho : over (parOf l) l.length a o j = false := by simp [over, hnx]
      rw [ho] at hfil
      simp [r0, r1, r2, r8, h1, h2, h3, ag22, fa35, st22, hjl, ex0, e, hnx, nextO, hv7]
      exact ⟨l.length - (j + 1), by omega, j + 1, hsub.trans t1, by simp [r0], by simp [r1], by simp [r2], by rw [hfil]; simpa [hv7] using hT7, by simp [hwj], by omega, rfl⟩
    | some y =>
      by_cases hyo : (y : Int) = o
      · have ho : over (parOf l) l.length a o j = true := by simp [over, hnx, hyo]
        rw [ho] at hfil
        obtain ⟨v', T', e2, u1, u2, u3, u4, u5⟩ := append_one (cx := C0) (ts := []) (y := .int .i64 j) st22 rfl un22 rfl hT7 (Nat.le_trans hsub.next t1.next) (by simp [fits, nble]; omega)
        simp [r0, r1, r2, r8, h1, h2, h3, ag22, fa35, hjl, ex0, e, hnx, nextO, hyo, hv7, st22, e2]
        refine ⟨l.length - (j + 1), by omega, j + 1, ((hsub.trans t1).stay (Nat.le_refl _)).trans u2 |>.sub, by simp [r0], by simp [r1], by simp [r2], ?_, by simp [hwj], by omega, rfl⟩
        rw [hfil]; simpa [ints] using u1
      · have ho : over (parOf l) l.length a o j = false := by simp [over, hnx, hyo]
        rw [ho] at hfil
        simp [r0, r1, r2, r8, h1, h2, h3, ag22, fa35, st22, hjl, ex0, e, hnx, nextO, hyo, hv7]
        exact ⟨l.length - (j + 1), by omega, j + 1, hsub.trans t1, by simp [r0], by simp [r1], by simp [r2], by rw [hfil]; simpa [hv7] using hT7, by simp [hwj], by omega, rfl⟩
  · have hjn : j = l.length := by omega
    simp [r0, r1, r2, r8, h1, h2, h3, ag22, fa35, st22, hjl, hv7, r7.sl.np, hsub]
    unfold sideZ
    rw [hjn] at r7; exact r7
end Go.Proofs.Ytpjebmdeaieniaa.tree
