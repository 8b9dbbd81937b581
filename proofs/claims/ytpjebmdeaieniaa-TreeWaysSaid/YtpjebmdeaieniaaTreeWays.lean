/-
  'TreeWays', walked.
-/
import Derived.Test.YtpjebmdeaieniaaTreeWaysP
namespace Go.Proofs.Ytpjebmdeaieniaa.tree
open Go Go.Am
set_option linter.unusedVariables false
set_option linter.unusedSimpArgs false

/-! ### A map of numbers -/
def mapE (ks : List Nat) : List AEnt := ks.zipIdx.map fun x => ⟨.int .i64 (x.1 : Int), .int .i64 1, x.2⟩
theorem mapE_append (ks : List Nat) (x : Nat) : mapE (ks ++ [x]) = mapE ks ++ [⟨.int .i64 x, .int .i64 1, ks.length⟩] := by simp [mapE, List.zipIdx_append]
theorem findE_no {k : IntKind} {x : Nat} : ∀ (es : List AEnt) (i : Nat), (∀ e, e ∈ es → ∃ y : Nat, e.key = .int .i64 y ∧ y ≠ x) → findE (.int k) (.int .i64 x) es i = some none
  | [], _, _ => rfl
  | e :: es, i, h => by
    obtain ⟨y, h1, h2⟩ := h e (List.mem_cons_self ..)
    show (match sameK (.int k) (.int .i64 x) e.key with | some true => some (some (i, e)) | some false => findE (.int k) (.int .i64 x) es (i + 1) | none => none) = _
    have : sameK (.int k) (.int .i64 (x : Int)) e.key = some false := by
      rw [h1]
      simp only [sameK, kindEq_eq, eqI_eq]
      have : ¬ ((x : Int) = (y : Int)) := by omega
      simp [this]
    rw [this]
    exact findE_no es (i + 1) fun e he => h e (List.mem_cons_of_mem _ he)
theorem findE_mapE {k : IntKind} {ks : List Nat} {x : Nat} (h : x ∉ ks) : findE (.int k) (.int .i64 x) (mapE ks) 0 = some none := by
  refine findE_no _ _ fun e he => ?_
  simp only [mapE, List.mem_map] at he
  obtain ⟨y, hy, rfl⟩ := he
  obtain ⟨z, j⟩ := y
  have hz : z ∈ ks := by have := List.mem_zipIdx hy; obtain ⟨_, _, h3⟩ := this; rw [h3]; exact List.getElem_mem _
  exact ⟨z, rfl, fun e => h (e ▸ hz)⟩
theorem und42 : und C0 42 = some (.map 3 3) := by kernel_rfl
theorem mp42 : mapT C0 42 = true := by kernel_rfl
theorem und3 : und C0 3 = some (.int .i64) := by kernel_rfl
theorem ze3 : zeroOf C0 3 = some (.int .i64 0) := by kernel_rfl
theorem lookup_no {S : AS} {id : Nat} {ks : List Nat} {c x : Nat} (h : S.h.get id = some (.map (mapE ks) c)) (hx : x ∉ ks) : lookupV C0 S 42 (.map id) (.int .i64 x) false = some (.int .i64 0) := by
  unfold lookupV
  simp only [und42, und3, ze3, plainKey, h, findE_mapE hx]
  rfl
theorem update_no {S : AS} {id : Nat} {ks : List Nat} {x : Nat} (h : S.h.get id = some (.map (mapE ks) ks.length)) (hx : x ∉ ks) : updateV C0 S 42 (.map id) (.int .i64 x) (.int .i64 1) = some (.undef, ⟨S.h.set id (.map (mapE (ks ++ [x])) (ks.length + 1)), S.next⟩) := by
  unfold updateV
  simp only [und42, und3, plainKey, h, findE_mapE hx]
  simp [appL_eq, mapE_append]

/-! ### The plain part -/
theorem way_drop {p : Nat → Nat} (hp : Par p) (a t : Nat) : ∀ (i x : Nat), (way p a t)[i]? = some x → (way p a t).drop i = way p x t := by
  intro i
  induction i with
  | zero =>
    intro x hx
    obtain ⟨r, e⟩ := way_head hp a t
    rw [e] at hx
    simp at hx
    rw [List.drop_zero, hx]
  | succ i ih =>
    intro x hx
    have hl := (List.getElem?_eq_some_iff.1 hx).1
    obtain ⟨y, hy⟩ : ∃ y, (way p a t)[i]? = some y := ⟨_, List.getElem?_eq_getElem (by omega)⟩
    have h1 := ih y hy
    have hne : y ≠ t := by
      intro e
      rw [e, way_same hp] at h1
      have := congrArg List.length h1
      simp at this; omega
    obtain ⟨z, _, h3⟩ := step hp y t hne
    rw [h3] at h1
    have h4 : (way p a t).drop (i + 1) = way p z t := by
      rw [← List.drop_drop, h1]; rfl
    have h5 : (way p a t)[i + 1]? = ((way p a t).drop (i + 1))[0]? := by rw [List.getElem?_drop]
    obtain ⟨r, e⟩ := way_head hp z t
    rw [hx, h4, e] at h5
    simp at h5
    rw [h4, h5]
theorem way_next {p : Nat → Nat} (hp : Par p) {a t i x : Nat} (h : (way p a t)[i]? = some x) : nx p x t = (way p a t)[i + 1]? := by
  unfold nx
  rw [← way_drop hp a t i x h, List.getElem?_drop]
theorem way_lt {p : Nat → Nat} (hp : Par p) {n a t : Nat} (ha : a < n) (ht : t < n) {i x : Nat} (h : (way p a t)[i]? = some x) : x < n := by
  have := way_le hp a t x (List.mem_of_getElem? h); omega

theorem fn4 : C0.fns.get 4 = some Try.f4 := by kernel_rfl
theorem ok4 : codeOk C0 Try.f4.ntmps (Try.f4.body.getD .skip) = true := by kernel_rfl
theorem nt4 : Try.f4.ntmps = 146 := by kernel_rfl
theorem un4 : und C0 4 = some .bool := by kernel_rfl

def waysI (S : AS) (pv wv bv : AV) (t : Nat) (p : Nat → Nat) (a b : Nat) (m : Nat) (F' : Fr) (S' : AS) : Prop := ∃ i, Sub S S' ∧ S'.h.get S.next = some (.map (mapE ((way p a b).take i)) i) ∧ S.next < S'.next ∧
  sl F' 7 = pv ∧ sl F' 8 = .ptr t 0 0 1 ∧ sl F' 11 = .int .i64 b ∧ sl F' 12 = wv ∧ sl F' 13 = bv ∧ sl F' 14 = .map S.next ∧ sl F' 87 = wv ∧ sl F' 88 = .int .i64 (way p a b).length ∧ sl F' 89 = .int .i64 i ∧
  (∀ x, (way p a b)[i]? = some x → sl F' 15 = .int .i64 x) ∧ i ≤ (way p a b).length ∧ m = (way p a b).length - i

set_option maxHeartbeats 4000000 in
theorem ways {S : AS} {u : AV} {l : List Nat} (hu : Sl S u 1 (bytesA l)) (hb : ∀ n, n ∈ l → n < 256) {a b : Nat} (ha : a < 256) (hb2 : b < 256) : CallW C0 4 [u, .int .u8 a, .int .u8 b] S fun v T => v = .bool true := by
  refine enterW (pu0 _) (pr0 _ rfl) fn4 rfl ok4 (by simp) fun F hn hs => ?_
  rw [nt4] at hn
  have s0 := hs 0
  have s1 := hs 1
  have s2 := hs 2
  clear hs
  simp only [List.getElem?_cons_zero, List.getElem?_cons_succ, Option.getD_some] at s0 s1 s2
  obtain ⟨pv, S1, ⟨q1, q2⟩, e1⟩ := (parents hu hb).ex
  have hval := parsZ_valid l (k := min l.length 63) (by omega)
  have hPl := parsZ_len l (min l.length 63)
  generalize parsZ l (min l.length 63) = P at q2 hval hPl
  obtain ⟨v2, S2, ⟨t, vb, vs, rfl, hT, q3⟩, e2⟩ := (new q2 hval).ex
  have hp := hval.par
  have p1 := q2.sl
  have p2 : sLen pv = P.length := by rw [q2.len1, intZ_len]
  have hn0 : 0 < P.length := by omega
  have hn64 := hval.hi
  obtain ⟨n, hnn⟩ : ∃ n, n = P.length := ⟨_, rfl⟩
  have hlen := adjs_len (parOf P) P.length
  have hw1 : IntKind.i64.wrap (a : Int) = (a : Int) := wrap_nat (by omega)
  have hw2 : IntKind.i64.wrap (b : Int) = (b : Int) := wrap_nat (by omega)
  have hz : ¬ ((P.length : Int) = 0) := by omega
  obtain ⟨x, hx0⟩ : ∃ x, x = a % P.length := ⟨_, rfl⟩
  obtain ⟨y, hy0⟩ : ∃ y, y = b % P.length := ⟨_, rfl⟩
  have hm1 : Int.tmod (a : Int) (P.length : Int) = (x : Int) := by rw [hx0]; exact tmod_nat _ _
  have hm2 : Int.tmod (b : Int) (P.length : Int) = (y : Int) := by rw [hy0]; exact tmod_nat _ _
  have hx : x < P.length := by rw [hx0]; exact Nat.mod_lt _ hn0
  have hy : y < P.length := by rw [hy0]; exact Nat.mod_lt _ hn0
  have hln : ¬ P = [] := by intro e; rw [e] at hn0; simp at hn0
  simp [s0, s1, s2, ex0, e1, e2, st22, p1, p2, d8, callSize hT, hlen, un4]
  refine drawn_forget [1, 2, 7, 8] fun G hn2 hag => ?_
  simp [s1, s2] at hag
  obtain ⟨r1, r2, r7, r8⟩ := hag
  have hn3 : G.n = 146 := by rw [hn2]; simp [hn]
  clear hn2 s0 s1 s2 hn F
  refine draws [.p, .p, .p, .e [], .p, .p, .p, .p, .e [], .p, .p, .p] (n := 146) (by kernel_rfl) hn3 ?_
  obtain ⟨wv, S3, ⟨q4, q5⟩, e3⟩ := (path hp hn64 hT x y).ex
  obtain ⟨bv, S4, ⟨q6, q7⟩, e4⟩ := (path hp hn64 (hT.sub q4) y x).ex
  have hwz : wayZ (parOf P) P.length x y = way (parOf P) x y := by
    unfold wayZ
    rw [if_pos ⟨⟨by omega, by omega⟩, ⟨by omega, by omega⟩⟩]; simp
  have hbz : wayZ (parOf P) P.length y x = (way (parOf P) x y).reverse := by
    unfold wayZ
    rw [if_pos ⟨⟨by omega, by omega⟩, ⟨by omega, by omega⟩⟩, ← way_turn hp]; simp
  rw [hwz] at q5
  rw [hbz] at q7
  obtain ⟨wt, hwt⟩ := way_head hp x y
  obtain ⟨wl, hwl⟩ := way_last hp x y
  have q5' := q5.toSub q6
  have w1 := q5.sl
  have w2 : sLen wv = (way (parOf P) x y).length := by rw [q5.len1, ints_len]
  have b1 := q7.sl
  have b2 : sLen bv = (way (parOf P) x y).length := by rw [q7.len1, ints_len, List.length_reverse]
  have hW0 : 0 < (way (parOf P) x y).length := by rw [hwt]; simp
  have hWl := way_len hp x y
  have l1 := loadT_sl (cx := C0) (e := 3) q5' (ints_get (k := 0) (n := x) (by rw [hwt]; rfl)) ag3
  have l2 := loadT_sl (cx := C0) (e := 3) q5' (ints_get (k := (way (parOf P) x y).length - 1) (n := y) (by rw [hwl]; simp)) ag3
  have f1 : IntKind.i64.wrap (((way (parOf P) x y).length : Int) - 1) = (((way (parOf P) x y).length - 1 : Nat) : Int) := by rw [IntWalk.i64_in _ (by omega)]; omega
  have f2 : (way (parOf P) x y).length - 1 < (way (parOf P) x y).length := by omega
  have f3 : ¬ (((way (parOf P) x y).length : Int) = 0) := by omega
  generalize hWL : (way (parOf P) x y).length = L at w2 b2 hW0 hWl l2 f1 f2 f3
  have f4 : ¬ L = 0 := by omega
  simp [r1, r2, r7, r8, ex0, cv53, callSize hT, hlen, hw1, hw2, hm1, hm2, hz, hln, e3, e4, st22, w1, w2, b1, b2, l1, l2, ag3, f1, f2, f3, f4, hW0, mp42]
  have hT4 : TrP S4 t vb vs (adjs (parOf P) P.length) := (hT.sub q4).sub q6
  have q2' := ((q2.toSub q3).toSub q4).toSub q6
  have hP0 : P[0]? = some (-1) := hval.head
  have hPs : ∀ j, 0 < j → j < P.length → P[j]? = some ((parOf P j : Nat) : Int) := by
    intro j h1 h2
    obtain ⟨k, rfl⟩ : ∃ k, j = k + 1 := ⟨j - 1, by omega⟩
    exact hval.at_ h2
  refine loopP_of (waysI S4 pv wv bv t (parOf P) x y) L ⟨0, ?_, ?_, by simp, by simp [r7], by simp [r8], by simp, by simp, by simp, by simp, by simp, by simp [hWL], by simp, ?_, by omega, by omega⟩ ?_
  · exact (Sub.refl S4).set _ _ (Nat.le_refl _) _ (Nat.le_succ _)
  · simp [mapE]
  · intro z hz'
    rw [hwt] at hz'
    simp at hz'
    simp [hz']
  · rintro m F' S' hn' ⟨i, hsub, hmap, hlt, r7, r8, r11, r12, r13, r14, r87, r88, r89, r15, hi, hm⟩
    have hn2 : F'.n = 146 := by rw [hn']; simp [hn3]
    clear hn'
    rw [hWL] at r88 hi hm
    by_cases hil : i < L
    · obtain ⟨z, hzi⟩ : ∃ z, (way (parOf P) x y)[i]? = some z := ⟨_, List.getElem?_eq_getElem (by omega)⟩
      have hzn := way_lt hp hx hy hzi
      have r15' := r15 z hzi
      have g1 := loadT_sl (cx := C0) (e := 3) (q5'.toSub hsub) (ints_get hzi) ag3
      have g2 : loadT C0 S' 3 (pAt bv (L - 1 - i)) = some (.int .i64 z) := by
        refine loadT_sl (q7.toSub hsub) (ints_get ?_) ag3
        rw [List.getElem?_reverse (by omega), hWL, show L - 1 - (L - 1 - i) = i by omega]
        exact hzi
      have g3 : IntKind.i64.wrap (((L - 1 : Nat) : Int) - (i : Int)) = ((L - 1 - i : Nat) : Int) := by rw [IntWalk.i64_in _ (by omega)]; omega
      have g4 : L - 1 - i < L := by omega
      have hnot : z ∉ (way (parOf P) x y).take i := by
        intro hmem
        obtain ⟨j, hj⟩ := List.getElem?_of_mem hmem
        rw [List.getElem?_take] at hj
        split at hj
        · rename_i hji
          have hnd := way_nodup hp x y
          have h1 := (List.getElem?_eq_some_iff.1 hj).1
          have h2 := (List.getElem?_eq_some_iff.1 hzi).1
          have h3 : (way (parOf P) x y)[j] = (way (parOf P) x y)[i] := by
            rw [(List.getElem?_eq_some_iff.1 hj).2, (List.getElem?_eq_some_iff.1 hzi).2]
          exact (List.pairwise_iff_getElem.1 hnd) j i h1 h2 hji h3
        · cases hj
      have htl : ((way (parOf P) x y).take i).length = i := by rw [List.length_take]; omega
      have k1 := lookup_no hmap hnot
      have hmap' : S'.h.get S4.next = some (.map (mapE ((way (parOf P) x y).take i)) ((way (parOf P) x y).take i).length) := by rw [htl]; exact hmap
      have k2 := update_no hmap' hnot
      have htk : (way (parOf P) x y).take i ++ [z] = (way (parOf P) x y).take (i + 1) := by
        rw [List.take_succ_eq_append_getElem (by omega), (List.getElem?_eq_some_iff.1 hzi).2]
      rw [htk, htl] at k2
      have hsub2 : Sub S4 (⟨S'.h.set S4.next (.map (mapE ((way (parOf P) x y).take (i + 1))) (i + 1)), S'.next⟩ : AS) := hsub.set _ _ (Nat.le_refl _) _ (Nat.le_refl _)
      obtain ⟨nv, T, ⟨rfl, q8⟩, e5⟩ := (next hp hn64 (hT4.sub hsub2) z y).ex
      have hsub3 := hsub2.trans q8
      have hmapT : T.h.get S4.next = some (.map (mapE ((way (parOf P) x y).take (i + 1))) (i + 1)) := by
        rw [q8.h _ hlt]; exact get_set_same _ _ _
      have hnx : nxZ (parOf P) P.length z y = (way (parOf P) x y)[i + 1]? := by
        unfold nxZ wayZ
        rw [if_pos ⟨⟨by omega, by omega⟩, ⟨by omega, by omega⟩⟩, ← way_next hp hzi]; simp [nx]
      rw [hnx] at e5
      have hw3 : IntKind.i64.wrap ((i : Int) + 1) = ((i + 1 : Nat) : Int) := wrap_succ (by omega)
      cases hnext : (way (parOf P) x y)[i + 1]? with
      | none =>
        have hlast : i = L - 1 := by rw [List.getElem?_eq_none_iff] at hnext; omega
        have hzy : z = y := by
          have : (way (parOf P) x y)[L - 1]? = some y := by rw [← hWL, hwl]; simp
          rw [hlast, this] at hzi; cases hzi; rfl
        rw [hnext] at e5
        subst hzy
        simp [r7, r8, r11, r12, r13, r14, r87, r88, r89, r15', hil, st22, w1, w2, b1, b2, g1, g2, f1, g3, g4, ag3, k1, k2, ex0, e5, nextO, un4]
        refine ⟨L - (i + 1), by omega, i + 1, hsub3, hmapT, Nat.lt_of_lt_of_le hlt q8.next, by simp [r7], by simp [r8], by simp [r11], by simp [r12], by simp [r13], by simp [r14], by simp [r87], by simp [r88, hWL], by simp [hw3], fun x' hx' => ?_, by omega, by omega⟩
        rw [hnext] at hx'; cases hx'
      | some z' =>
        have hzn' := way_lt hp hx hy hnext
        have hzy : z ≠ y := by
          intro e
          subst e
          have := way_next hp hzi
          rw [nx_none hp, hnext] at this; cases this
        have hzy' : ¬ ((z : Int) = (y : Int)) := by omega
        have hnb : nb (parOf P) z z' := by
          obtain ⟨z2, h1, h2, _⟩ := nx_some hp hzy
          rw [way_next hp hzi, hnext] at h1; cases h1; exact h2
        rw [hnext] at e5
        obtain ⟨q, hq⟩ : ∃ q, P[z']? = some q := ⟨_, List.getElem?_eq_getElem hzn'⟩
        have q2T := q2'.toSub hsub3
        have h1 := loadT_sl (cx := C0) (e := 3) q2T (k := z') (x := .int .i64 q) (by rw [intZ, List.getElem?_map, hq]; rfl) ag3
        have fin : waysI S4 pv wv bv t (parOf P) x y (L - (i + 1)) F' T → True := fun _ => trivial
        rcases hnb with ⟨n1, n2⟩ | ⟨n1, n2⟩
        · have hqz : ¬ q = (z : Int) := by
            rcases Nat.eq_zero_or_pos z' with h0 | h0
            · rw [h0, hP0] at hq; cases hq; omega
            · rw [hPs z' h0 hzn'] at hq; cases hq
              have := hp z' h0
              have := hp z n1
              omega
          have h2 := loadT_sl (cx := C0) (e := 3) q2T (k := z) (x := .int .i64 z') (by rw [intZ, List.getElem?_map, hPs z n1 hzn, ← n2]; rfl) ag3
          simp [r7, r8, r11, r12, r13, r14, r87, r88, r89, r15', hil, st22, w1, w2, b1, b2, g1, g2, f1, g3, g4, ag3, k1, k2, ex0, e5, nextO, hzy', hzy, un4, p1, p2, hzn, hzn', h1, h2, hqz]
          refine ⟨L - (i + 1), by omega, i + 1, hsub3, hmapT, Nat.lt_of_lt_of_le hlt q8.next, by simp [r7], by simp [r8], by simp [r11], by simp [r12], by simp [r13], by simp [r14], by simp [r87], by simp [r88, hWL], by simp [hw3], fun x' hx' => ?_, by omega, by omega⟩
          rw [hnext] at hx'; cases hx'; simp
        · have hq' : q = (z : Int) := by
            rw [hPs z' n1 hzn'] at hq; cases hq; rw [n2]
          simp [r7, r8, r11, r12, r13, r14, r87, r88, r89, r15', hil, st22, w1, w2, b1, b2, g1, g2, f1, g3, g4, ag3, k1, k2, ex0, e5, nextO, hzy', hzy, un4, p1, p2, hzn, hzn', h1, hq']
          refine ⟨L - (i + 1), by omega, i + 1, hsub3, hmapT, Nat.lt_of_lt_of_le hlt q8.next, by simp [r7], by simp [r8], by simp [r11], by simp [r12], by simp [r13], by simp [r14], by simp [r87], by simp [r88, hWL], by simp [hw3], fun x' hx' => ?_, by omega, by omega⟩
          rw [hnext] at hx'; cases hx'; simp
    · simp [r87, r88, r89, hil]
end Go.Proofs.Ytpjebmdeaieniaa.tree
