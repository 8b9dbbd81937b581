/-
  'TreeTells', walked.
-/
import Derived.Test.YtpjebmdeaieniaaTreeRefd
namespace Go.Proofs.Ytpjebmdeaieniaa.tree
open Go Go.Am
set_option linter.unusedVariables false
set_option linter.unusedSimpArgs false

theorem fn3 : C0.fns.get 3 = some Try.f3 := by kernel_rfl
theorem ok3 : codeOk C0 Try.f3.ntmps (Try.f3.body.getD .skip) = true := by kernel_rfl
theorem nt3 : Try.f3.ntmps = 145 := by kernel_rfl
theorem un4b : und C0 4 = some .bool := by kernel_rfl
theorem sz3b : szOf C0 3 = some 1 := by kernel_rfl
theorem TrP.above {S T : AS} {lo i : Nat} {vb : AV} {vs : List AV} {adj : List (List Nat)} (h : TrP S i vb vs adj) (ha : TrA lo i vb vs) (hs : Above lo S T) : TrP T i vb vs adj :=
  ⟨Nat.lt_of_lt_of_le h.lt hs.next, by rw [hs.h i ha.t h.lt]; exact h.at_, h.sl.above hs (.inr ha.vb), h.len, fun k l hk => let ⟨v, a, b⟩ := h.row k l hk; ⟨v, a, b.above hs (ha.vs k v a)⟩⟩
theorem RefP.above {S T : AS} {lo i : Nat} {pv : AV} {l : List Int} (h : RefP S i pv l) (hi : lo ≤ i) (hb : bnd pv = 0 ∨ lo < bnd pv) (hs : Above lo S T) : RefP T i pv l :=
  ⟨Nat.lt_of_lt_of_le h.lt hs.next, by rw [hs.h i hi h.lt]; exact h.at_, h.sl.above hs hb⟩
theorem sameI {S : AS} {u v : AV} {l : List Nat} (hu : Sl S u 1 (ints l)) (hv : Sl S v 1 (ints l)) (hb : l.length ≤ 10000) {Q : AV → AS → Prop} : CallW C0 14 [u, v] S Q = Q (.bool true) S := by
  rw [ints_Z] at hu hv
  have h := same hu hv (by simp; omega)
  refine (h.mono fun x T hx => ?_ : CallW C0 14 [u, v] S fun x T => x = .bool true ∧ T = S).eq
  exact ⟨by rw [hx.1]; simp, hx.2⟩

def zeroI (S : AS) (t ri : Nat) (vb : AV) (vs : List AV) (adj : List (List Nat)) (pv : AV) (l : List Int) (lo : Nat) (ov : AV) (a b : Int) (m : Nat) (F' : Fr) (S' : AS) : Prop := ∃ (k : Nat) (cs : List AV), TrP S' t vb vs adj ∧ RefP S' ri pv l ∧ Own S' lo ov 1 3 cs ∧ cs.length = l.length ∧
  sl F' 1 = .int .i64 a ∧ sl F' 2 = .int .i64 b ∧ sl F' 7 = ov ∧ sl F' 8 = .ptr t 0 0 1 ∧ sl F' 10 = .ptr ri 0 0 1 ∧ sl F' 52 = .int .i64 l.length ∧ sl F' 53 = .int .i64 k ∧ k ≤ l.length ∧ m = l.length - k

def nineI (B : AS) (t ri : Nat) (lv : AV) (n : Nat) (a : Int) (m : Nat) (F' : Fr) (S' : AS) : Prop := ∃ (k : Nat) (cs : List AV), Sub B S' ∧ (0 < n → Own S' B.next lv 1 3 cs) ∧ cs.length = n ∧
  sl F' 1 = .int .i64 a ∧ sl F' 8 = .ptr t 0 0 1 ∧ sl F' 10 = .ptr ri 0 0 1 ∧ sl F' 17 = lv ∧ sl F' 130 = .int .i64 n ∧ sl F' 131 = .int .i64 k ∧ k ≤ n ∧ m = n - k
set_option maxHeartbeats 4000000 in
theorem tells {S : AS} {u : AV} {l0 : List Int} (hu0 : Sl S u 1 (intZ l0)) (a b : Int) : CallW C0 3 [u, .int .i64 a, .int .i64 b] S fun v T => v = .bool true := by
  refine enterW (pu0 _) (pr0 _ rfl) fn3 rfl ok3 (by simp) fun F hn hs => ?_
  rw [nt3] at hn
  have s0 := hs 0
  have s1 := hs 1
  have s2 := hs 2
  clear hs
  simp only [List.getElem?_cons_zero, List.getElem?_cons_succ, Option.getD_some] at s0 s1 s2
  have u1 := hu0.sl
  have u2 : sLen u = l0.length := by rw [hu0.len1, intZ_len]
  obtain ⟨kk, hkk⟩ : ∃ kk, kk = min l0.length 80 := ⟨_, rfl⟩
  have hmin : (if (80 : Int) < (l0.length : Int) then (80 : Int) else (l0.length : Int)) = (kk : Int) := by split <;> omega
  have hk1 : kk ≤ l0.length := by omega
  have hcut := hu0.cut (l := 0) (k := kk) (Nat.zero_le _) (by omega)
  have hcl := subA_len hu0 (l := 0) (k := kk) (Nat.zero_le _) (by omega)
  have e0 : ((intZ l0).drop (0 * 1)).take ((kk - 0) * 1) = intZ (l0.take kk) := by simp [intZ, List.map_take]
  rw [e0] at hcut
  have hll : (l0.take kk).length = kk := by rw [List.length_take]; omega
  generalize l0.take kk = l at hcut hll
  generalize hw : subA u 0 kk = w at hcut hcl
  have w1 := hcut.sl
  have w2 : sLen w = l.length := by rw [hcut.len1, intZ_len]
  have hx : Sl (⟨S.h.set S.next (.row [] 0 0 false 3), S.next + 1⟩ : AS) w 1 (intZ l) := ⟨w1, by rw [rdS_set hcut.old]; exact hcut.rd, hcut.len, Nat.le_succ_of_le hcut.old⟩
  obtain ⟨ov, T1, e1, o1, o2, o3, o4, o5, o6⟩ := append_empty (cx := C0) (ts := []) st22 un22 rfl (get_set_same _ _ _) (Nat.lt_succ_self _) hx (by rw [w2]; simp [fits, nble]; omega)
  have sub1 : Sub S T1 := ((Sub.refl S).set _ _ (Nat.le_refl _) _ (Nat.le_succ _)).trans o2
  have hw0 := hcut.toSub sub1
  by_cases hval : Valid l
  · obtain ⟨v2, T2, ⟨t, vb, vs, rfl, hT, q2, hA⟩, e2⟩ := (newA o1 hval).ex
    obtain ⟨v3, T3, ⟨q3, hR⟩, e3⟩ := (rnew (hw0.toSub q2)).ex
    rcases hR with ⟨_, ri, pv, rfl, hR, hR1, hR2⟩ | ⟨hR, _⟩
    · have ov1 := o1.sl
      have ov2 : sLen ov = l.length := by rw [o1.len1, intZ_len]
      have hl1 := hval.lo
      have hl64 := hval.hi
      have hp := hval.par
      have hown := o5 (by rw [w2]; omega)
      have bov : bnd ov ≤ T1.next := o1.old
      have hlenA := adjs_len (parOf l) l.length
      simp [s0, s1, s2, ex0, d8, st22, u1, u2, hmin, hk1, hw, e1, e2, e3, un4b, pt24, pt28, ov1, ov2]
      refine loopP_of (zeroI S t ri vb vs (adjs (parOf l) l.length) pv l (S.next + 1) ov a b) l.length ⟨0, intZ l, hT.sub q3, hR, (hown.sub q2).sub q3, intZ_len l, by simp [s1], by simp [s2], by simp, by simp, by simp, by simp, by simp, by omega, by omega⟩ ?_
      rintro m F' S' hn' ⟨k, cs, hT', hR', hown', hcs, r1, r2, r7, r8, r10, r52, r53, hk, hm⟩
      have hn2 : F'.n = 145 := by rw [hn']; simp [hn]
      clear hn' s0 s1 s2 hn
      by_cases hkl : k < l.length
      · obtain ⟨T, p1, p2, p3, p4, p5⟩ := hown'.put (i := k) (x := .int .i64 0) (by omega)
        have hw3 : IntKind.i64.wrap ((k : Int) + 1) = ((k + 1 : Nat) : Int) := wrap_succ (by omega)
        simp [r1, r2, r7, r8, r10, r52, r53, hkl, st22, ov1, ov2, sz3b, p1]
        exact ⟨l.length - (k + 1), by omega, k + 1, cs.set k (.int .i64 0), hT'.above hA (p5.mono bov), hR'.above hR1 hR2 (p5.mono (Nat.le_trans bov q2.next)), p2, by simp [hcs], by simp [r1], by simp [r2], by simp [r7], by simp [r8], by simp [r10], by simp [r52], by simp [hw3], by omega, by omega⟩
      · obtain ⟨v4, T4, ⟨rfl, t1⟩, e4⟩ := (next hp hl64 hT' a b).ex
        obtain ⟨v5, T5, ⟨rfl, t2⟩, e5⟩ := (rnext hval (hR'.sub t1) a b).ex
        have hT5 := (hT'.sub t1).sub t2
        have hR5 := (hR'.sub t1).sub t2
        obtain ⟨x1, T6, ⟨t3, y1⟩, e6⟩ := (path hp hl64 hT5 a b).ex
        obtain ⟨x2, T7, ⟨t4, y2⟩, e7⟩ := (rpath hval (hR5.sub t3) a b).ex
        have c1 := fun (Q : AV → AS → Prop) => sameI (Q := Q) (y1.toSub t4) y2 (by have := wayZ_len hp (n := l.length) a b; omega)
        have hT7 := (hT5.sub t3).sub t4
        have hR7 := (hR5.sub t3).sub t4
        obtain ⟨x3, T8, ⟨t5, y3⟩, e8⟩ := (side hp hl64 hT7 a b).ex
        obtain ⟨x4, T9, ⟨t6, y4⟩, e9⟩ := (rside hval (hR7.sub t5) a b).ex
        have sideLen : (sideZ (parOf l) l.length a b).length ≤ 10000 := by
          have := List.length_filter_le (over (parOf l) l.length a b) (List.range l.length)
          unfold sideZ; simp at this; omega
        have c2 := fun (Q : AV → AS → Prop) => sameI (Q := Q) (y3.sl.toSub t6) y4.sl sideLen
        have hT9 := (hT7.sub t5).sub t6
        have hR9 := (hR7.sub t5).sub t6
        have adjLen : ∀ c : Int, (adjZ (parOf l) l.length c).length ≤ 10000 := by
          intro c
          unfold adjZ
          split
          · have := adj_len (p := parOf l) l.length c.toNat; omega
          · simp
        obtain ⟨x5, T10, ⟨t7, y5, _, _⟩, e10⟩ := (neighbours hl64 hT9 b).ex
        obtain ⟨x6, T11, ⟨t8, y6⟩, e11⟩ := (rneighbours hval (hR9.sub t7) b).ex
        have c3 := fun (Q : AV → AS → Prop) => sameI (Q := Q) (y5.toSub t8) y6.sl (adjLen b)
        have hT11 := (hT9.sub t7).sub t8
        have hR11 := (hR9.sub t7).sub t8
        have ra := hR5.at_
        have rs := hR5.sl.sl
        have rw' := okW_ok hR5.sl.ok
        have rl : sLen pv = l.length := by rw [hR5.sl.len1, intZ_len]
        obtain ⟨zv, zb, hnv⟩ : ∃ zv zb, nextO (nxZ (parOf l) l.length a b) = .tuple [.int .i64 zv, .bool zb] := by
          cases nxZ (parOf l) l.length a b
          · exact ⟨_, _, rfl⟩
          · exact ⟨_, _, rfl⟩
        rw [hnv] at e4 e5
        simp [r1, r2, r7, r8, r10, r52, r53, hkl, ex0, e4, e5]
        refine drawn_forget [1, 2, 8, 10, 13, 14, 15, 16] fun G hn3 hag => ?_
        simp [r1, r2, r8, r10] at hag
        obtain ⟨g1, g2, g8, g10, g13, g14, g15, g16⟩ := hag
        have hn4 : G.n = 145 := by rw [hn3]; simp [hn2]
        clear hn3
        refine drawnP_mono (fun H T => T = T11 ∧ H.n = 145 ∧ sl H 1 = .int .i64 a ∧ sl H 8 = .ptr t 0 0 1 ∧ sl H 10 = .ptr ri 0 0 1 ∧ sl H 125 = .bool false) ?_ ?_
        · refine draws [.p, .p, .p, .p, .p, .p, .p, .p, .p, .p, .e [], .p, .p, .p, .r 1 0, .r 1 0, .p, .p, .p, .p, .p, .p, .e [], .p, .p, .p, .e [], .e [], .p, .p, .p, .p, .p, .p, .e [], .p, .p, .p, .e [], .e [], .p, .p, .p, .p, .p, .e [], .p, .p, .e [], .e [], .p, .p] (n := 145) (by kernel_rfl) hn4 ?_
          simp [g1, g2, g8, g10, g13, g14, g15, g16, un4b, ex0, callSize hT5, hlenA, ra, ag22, fa35, st22, rs, rl, rw', e6, e7, c1, e8, e9, c2, e10, e11, c3, hn4]
        · rintro H T12 ⟨rfl, hn5, h1, h8, h10, h125⟩
          obtain ⟨lv, T13, ⟨t9, y7, y8, y9⟩, e12⟩ := (neighbours hl64 hT11 a).ex
          have lv1 := y7.sl
          have lv2 : sLen lv = (adjZ (parOf l) l.length a).length := by rw [y7.len1, ints_len]
          simp [h1, h8, h10, h125, ex0, e12, st22, lv1, lv2]
          generalize hadj : adjZ (parOf l) l.length a = adj at y7 y9 lv2
          have hal : adj.length ≤ 10000 := by rw [← hadj]; exact adjLen a
          refine loopP_of (nineI T12 t ri lv adj.length a) adj.length ⟨0, ints adj, t9, fun h0 => y9 (by intro e; rw [e] at h0; simp at h0), ints_len adj, by simp [h1], by simp [h8], by simp [h10], by simp, by simp, by simp, by omega, by omega⟩ ?_
          rintro m2 F2 S2 hn6 ⟨k2, cs2, z1, z2, z3, f1, f8, f10, f17, f130, f131, hk2, hm2⟩
          by_cases hkl2 : k2 < adj.length
          · obtain ⟨T, p1, p2, p3, p4, p5⟩ := (z2 (by omega)).put (i := k2) (x := .int .i64 (-9)) (by omega)
            have hw3 : IntKind.i64.wrap ((k2 : Int) + 1) = ((k2 + 1 : Nat) : Int) := wrap_succ (by omega)
            simp [f1, f8, f10, f17, f130, f131, hkl2, st22, lv1, lv2, sz3b, p1]
            exact ⟨adj.length - (k2 + 1), by omega, k2 + 1, cs2.set k2 (.int .i64 (-9)), (z1.stay (Nat.le_refl _)).trans p3 |>.sub, fun _ => p2, by simp [z3], by simp [f1], by simp [f8], by simp [f10], by simp [f17], by simp [f130], by simp [hw3], by omega, by omega⟩
          · obtain ⟨x7, T14, ⟨t10, y10, _, _⟩, e13⟩ := (neighbours hl64 (hT11.sub z1) a).ex
            obtain ⟨x8, T15, ⟨t11, y11⟩, e14⟩ := (rneighbours hval ((hR11.sub z1).sub t10) a).ex
            rw [hadj] at y10 y11
            have c4 := fun (Q : AV → AS → Prop) => sameI (Q := Q) (y10.toSub t11) y11.sl hal
            simp [f1, f8, f10, f17, f130, f131, hkl2, ex0, e13, e14, c4]
    · exact absurd hval hR
  · obtain ⟨v2, T2, ⟨rfl, q2⟩, e2⟩ := (newBad o1 hval).ex
    obtain ⟨v3, T3, ⟨q3, hR⟩, e3⟩ := (rnew (hw0.toSub q2)).ex
    rcases hR with ⟨hR, _⟩ | ⟨_, rfl⟩
    · exact absurd hR hval
    · simp [s0, s1, s2, ex0, d8, st22, u1, u2, hmin, hk1, hw, e1, e2, e3, un4b, pt24, pt28]
end Go.Proofs.Ytpjebmdeaieniaa.tree
