/-
  'Path', 'Next', 'Side', 'Neighbours' of the program's tree.
-/
import Derived.Test.YtpjebmdeaieniaaTreeFind
namespace Go.Proofs.Ytpjebmdeaieniaa.tree
open Go Go.Am
set_option linter.unusedVariables false
set_option linter.unusedSimpArgs false

theorem ze54 : zeroOf C0 54 = some .nilf := by kernel_rfl
theorem sz54 : szOf C0 54 = some 1 := by kernel_rfl
theorem fn15 : C0.fns.get 15 = some Try.f15 := by kernel_rfl
theorem ok15 : codeOk C0 Try.f15.ntmps (Try.f15.body.getD .skip) = true := by kernel_rfl

/-- In the tree? -/
def inT (n : Nat) (a : Int) : Prop := 0 ≤ a ∧ a < n
instance (n : Nat) (a : Int) : Decidable (inT n a) := inferInstanceAs (Decidable (_ ∧ _))
def wayZ (p : Nat → Nat) (n : Nat) (a b : Int) : List Nat := if inT n a ∧ inT n b then way p a.toNat b.toNat else []

set_option maxHeartbeats 1000000 in
theorem path {p : Nat → Nat} (hp : Par p) {n : Nat} (hn64 : n ≤ 64) {S : AS} {i : Nat} {vb : AV} {vs : List AV} (h : TrP S i vb vs (adjs p n)) (a b : Int) :
    CallW C0 15 [.ptr i 0 0 1, .int .i64 a, .int .i64 b] S fun v T => Sub S T ∧ Sl T v 1 (ints (wayZ p n a b)) := by
  refine enterW (pu0 _) (pr0 _ rfl) fn15 rfl ok15 (by simp) fun F hn hs => ?_
  have s0 := hs 0
  have s1 := hs 1
  have s2 := hs 2
  clear hs
  simp only [List.getElem?_cons_zero, List.getElem?_cons_succ, Option.getD_some] at s0 s1 s2
  have hsub : Sub S ⟨(S.h.set S.next (.row [.ptr i 0 0 1] 0 0 false 24)).set (S.next + 1) (.row [.int .i64 b] 0 0 false 3), S.next + 2⟩ := ((Sub.refl S).set _ _ (Nat.le_refl _) _ (Nat.le_succ _)).set _ _ (Nat.le_succ _) _ (Nat.le_succ _)
  have h2 := h.sub hsub
  have hl := adjs_len p n
  unfold wayZ inT
  by_cases a1 : 0 ≤ a
  · by_cases a2 : a < n
    · by_cases b1 : 0 ≤ b
      · by_cases b2 : b < n
        · obtain ⟨x, rfl⟩ : ∃ x : Nat, a = x := ⟨a.toNat, by omega⟩
          obtain ⟨y, rfl⟩ : ∃ y : Nat, b = y := ⟨b.toNat, by omega⟩
          have hx : x < n := by omega
          have hy : y < n := by omega
          simp [s0, s1, s2, ex0, ag24, ag3, ag54, callIs h2, hl, hx, hy, ze54, sz54, st22]
          have hs5 : Sub S (⟨((((S.h.set S.next (.row [.ptr i 0 0 1] 0 0 false 24)).set (S.next + 1) (.row [.int .i64 y] 0 0 false 3)).set (S.next + 2) (.row [.nilf] 0 0 false 54)).set (S.next + 2)
              (.row [.func (.func 25) [] [.ptr (S.next + 1) 0 0 1, .ptr S.next 0 0 1, .ptr (S.next + 2) 0 0 1]] 0 0 false 54)).set (S.next + 1 + 2) (.row [.int .i64 x] 0 0 false 3), S.next + 2 + 2⟩ : AS) :=
            (((hsub.set _ _ (by omega) _ (Nat.le_refl _)).set _ _ (by omega) _ (Nat.le_refl _)).set _ _ (by omega) _ (by simp))
          refine (find hp hn64 (bt := S.next + 1) (bb := S.next) (bf := S.next + 2) (ti := i) (vb := vb) (vs := vs) hy (n + x + 1) _ _ [] x hx (h.sub hs5) ⟨?_, ?_, ?_, ?_, ?_, ?_⟩ ?_ ?_ ?_).mono ?_
          · simp <;> omega
          · simp <;> omega
          · simp <;> omega
          · simp <;> omega
          · simp <;> omega
          · simp <;> omega
          · refine ⟨by simp, ?_, rfl, by simp [bnd]⟩
            simp [rdS, ints]
          · simp [far]
          · simp; omega
          · rintro v T ⟨r1, r2, _⟩
            have r3 := r2 (.inl rfl)
            simp [r3.np, hs5.trans r1, hx, hy]
            simpa using r3
        · simp [s0, s1, s2, ex0, ag24, ag3, callIs h2, hl, a1, a2, b1, b2, hsub, ints, Sl.nil]
      · simp [s0, s1, s2, ex0, ag24, ag3, callIs h2, hl, a1, a2, b1, hsub, ints, Sl.nil]
    · simp [s0, s1, s2, ex0, ag24, ag3, callIs h2, hl, a1, a2, hsub, ints, Sl.nil]
  · simp [s0, s1, s2, ex0, ag24, ag3, callIs h2, hl, a1, hsub, ints, Sl.nil]

/-! ### 'Next' -/
theorem fn11 : C0.fns.get 11 = some Try.f11 := by kernel_rfl
theorem ok11 : codeOk C0 Try.f11.ntmps (Try.f11.body.getD .skip) = true := by kernel_rfl
def nextO (w : Option Nat) : AV := match w with | some (y : Nat) => .tuple [.int .i64 (y : Int), .bool true] | none => .tuple [.int .i64 0, .bool false]
def nxZ (p : Nat → Nat) (n : Nat) (a b : Int) : Option Nat := (wayZ p n a b)[1]?
theorem wayZ_len {p : Nat → Nat} (hp : Par p) {n : Nat} (a b : Int) : (wayZ p n a b).length ≤ 2 * n + 1 := by
  unfold wayZ inT
  split
  · rename_i h
    have := way_len hp a.toNat b.toNat
    omega
  · simp
theorem next {p : Nat → Nat} (hp : Par p) {n : Nat} (hn64 : n ≤ 64) {S : AS} {i : Nat} {vb : AV} {vs : List AV} (h : TrP S i vb vs (adjs p n)) (a b : Int) :
    CallW C0 11 [.ptr i 0 0 1, .int .i64 a, .int .i64 b] S fun v T => v = nextO (nxZ p n a b) ∧ Sub S T := by
  refine enterW (pu0 _) (pr0 _ rfl) fn11 rfl ok11 (by simp) fun F hn hs => ?_
  have s0 := hs 0
  have s1 := hs 1
  have s2 := hs 2
  clear hs
  simp only [List.getElem?_cons_zero, List.getElem?_cons_succ, Option.getD_some] at s0 s1 s2
  obtain ⟨w, T, ⟨r1, r2⟩, e⟩ := (path hp hn64 h a b).ex
  unfold nxZ
  generalize wayZ p n a b = W at r2
  have w1 := r2.sl
  have w2 : sLen w = W.length := by rw [r2.len1, ints_len]
  cases hW : W[1]? with
  | none =>
    have hl : W.length < 2 := by
      rw [List.getElem?_eq_none_iff] at hW; omega
    have hl' : (W.length : Int) < 2 := by omega
    simp [s0, s1, s2, ex0, e, st22, w1, w2, hl', r1, nextO]
  | some y =>
    have hl : 1 < W.length := (List.getElem?_eq_some_iff.1 hW).1
    have hl' : ¬ (W.length : Int) < 2 := by omega
    have hl2 : (1 : Int) < W.length := by omega
    have hx := loadT_sl (cx := C0) (e := 3) r2 (ints_get hW) ag3
    simp [s0, s1, s2, ex0, e, st22, w1, w2, hl', hl2, hx, ag3, r1, nextO]

/-! ### 'Neighbours' -/
theorem fn19 : C0.fns.get 19 = some Try.f19 := by kernel_rfl
theorem ok19 : codeOk C0 Try.f19.ntmps (Try.f19.body.getD .skip) = true := by kernel_rfl
def adjZ (p : Nat → Nat) (n : Nat) (b : Int) : List Nat := if inT n b then adjOf p n b.toNat else []
theorem neighbours {p : Nat → Nat} {n : Nat} (hn64 : n ≤ 64) {S : AS} {i : Nat} {vb : AV} {vs : List AV} (h : TrP S i vb vs (adjs p n)) (b : Int) :
    CallW C0 19 [.ptr i 0 0 1, .int .i64 b] S fun v T => Sub S T ∧ Sl T v 1 (ints (adjZ p n b)) ∧ (bnd v = 0 ∨ S.next < bnd v) ∧ (adjZ p n b ≠ [] → Own T S.next v 1 3 (ints (adjZ p n b))) := by
  refine enterW (pu0 _) (pr0 _ rfl) fn19 rfl ok19 (by simp) fun F hn hs => ?_
  have s0 := hs 0
  have s1 := hs 1
  clear hs
  simp only [List.getElem?_cons_zero, List.getElem?_cons_succ, Option.getD_some] at s0 s1
  have hl := adjs_len p n
  have t1 := h.at_
  have b1 := h.sl.sl
  have b2 : sLen vb = n := by rw [h.sl.len1, h.len, hl]
  unfold adjZ inT
  by_cases a1 : 0 ≤ b
  · by_cases a2 : b < n
    · obtain ⟨x, rfl⟩ : ∃ x : Nat, b = x := ⟨b.toNat, by omega⟩
      have hx : x < n := by omega
      obtain ⟨av, c1, c2⟩ := h.row x _ (adjs_get hx)
      have b3 := loadT_sl (cx := C0) (e := 22) h.sl c1 ag22
      obtain ⟨v, T, ⟨r1, r2, _, r4, r5⟩, e⟩ := (clone c2 (by rw [ints_len]; have := adj_len (p := p) n x; omega)).ex
      simp [s0, s1, ex0, callIs h, hl, hx, t1, ag22, ag50, fa52, st50, b1, b2, b3, e, r1, r2, r2.np, r5]
      exact fun hc => r4 (by simpa [ints] using hc)
    · simp [s0, s1, ex0, callIs h, hl, a1, a2, ints, Sl.nil, Sub.refl, bnd]
  · simp [s0, s1, ex0, callIs h, hl, a1, ints, Sl.nil, Sub.refl, bnd]

/-! ### 'Side' -/
theorem fn17 : C0.fns.get 17 = some Try.f17 := by kernel_rfl
theorem ok17 : codeOk C0 Try.f17.ntmps (Try.f17.body.getD .skip) = true := by kernel_rfl
theorem nt17 : Try.f17.ntmps = 35 := by kernel_rfl
def over (p : Nat → Nat) (n : Nat) (a o : Int) (b : Nat) : Bool := match nxZ p n a b with | some (y : Nat) => decide ((y : Int) = o) | none => false
def sideZ (p : Nat → Nat) (n : Nat) (a o : Int) : List Nat := (List.range n).filter (over p n a o)
theorem side {p : Nat → Nat} (hp : Par p) {n : Nat} (hn64 : n ≤ 64) {S : AS} {i : Nat} {vb : AV} {vs : List AV} (h : TrP S i vb vs (adjs p n)) (a o : Int) :
    CallW C0 17 [.ptr i 0 0 1, .int .i64 a, .int .i64 o] S fun v T => Sub S T ∧ Own T S.next v 1 3 (ints (sideZ p n a o)) := by
  refine enterW (pu0 _) (pr0 _ rfl) fn17 rfl ok17 (by simp) fun F hn hs => ?_
  rw [nt17] at hn
  have s0 := hs 0
  have s1 := hs 1
  have s2 := hs 2
  clear hs
  simp only [List.getElem?_cons_zero, List.getElem?_cons_succ, Option.getD_some] at s0 s1 s2
  have hl := adjs_len p n
  simp [s0, s1, s2, ex0, callSize h, hl]
  refine loopP_of (fun k F' S' => ∃ j : Nat, Sub S S' ∧ sl F' 0 = .ptr i 0 0 1 ∧ sl F' 1 = .int .i64 a ∧ sl F' 2 = .int .i64 o ∧ Own S' S.next (sl F' 7) 1 3 (ints ((List.range j).filter (over p n a o))) ∧ sl F' 12 = .int .i64 n ∧ sl F' 13 = .int .i64 j ∧
      j ≤ n ∧ k = n - j) n ⟨0, by simp [s0, s1, s2, Sub.refl, Own.nil, ints]⟩ ?_
  rintro k F' S' hn' ⟨j, hsub, r0, r1, r2, r7, r12, r13, hj, hk⟩
  have hn2 : F'.n = 35 := by rw [hn']; simp [hn]
  clear hn' s0 s1 s2 hn
  have h' := h.sub hsub
  by_cases hjl : j < n
  · have hwj : IntKind.i64.wrap ((j : Int) + 1) = ((j + 1 : Nat) : Int) := wrap_succ (by omega)
    obtain ⟨v, T, ⟨rfl, t1⟩, e⟩ := (next hp hn64 h' a j).ex
    have hfil : (List.range (j + 1)).filter (over p n a o) = (List.range j).filter (over p n a o) ++ (if over p n a o j = true then [j] else []) := by
      rw [List.range_succ, List.filter_append]
      by_cases hh : over p n a o j = true
      · simp [hh]
      · simp [hh]
    have hle : (ints ((List.range j).filter (over p n a o))).length ≤ j := by
      rw [ints_len]
      have := List.length_filter_le (over p n a o) (List.range j)
      simpa using this
    generalize hv7 : sl F' 7 = v7 at r7
    have hT7 : Own T S.next v7 1 3 (ints ((List.range j).filter (over p n a o))) := r7.sub t1
    cases hnx : nxZ p n a j with
    | none =>
      have ho : over p n a o j = false := by simp [over, hnx]
      rw [ho] at hfil
      simp [r0, r1, r2, r12, r13, hjl, ex0, e, hnx, nextO, hv7]
      exact ⟨n - (j + 1), by omega, hsub.trans t1, j + 1, by rw [hfil]; simpa using hT7, hwj, by omega, rfl⟩
    | some y =>
      by_cases hyo : (y : Int) = o
      · have ho : over p n a o j = true := by simp [over, hnx, hyo]
        rw [ho] at hfil
        obtain ⟨v', T', e2, u1, u2, u3, u4, u5⟩ := append_one (cx := C0) (ts := []) (y := .int .i64 j) st22 rfl un22 rfl hT7 (Nat.le_trans hsub.next t1.next) (by simp [fits, nble]; omega)
        simp [r0, r1, r2, r12, r13, hjl, ex0, e, hnx, nextO, hyo, hv7, st22, e2]
        refine ⟨n - (j + 1), by omega, ((hsub.trans t1).stay (Nat.le_refl _)).trans u2 |>.sub, j + 1, ?_, hwj, by omega, rfl⟩
        rw [hfil]; simpa [ints] using u1
      · have ho : over p n a o j = false := by simp [over, hnx, hyo]
        rw [ho] at hfil
        simp [r0, r1, r2, r12, r13, hjl, ex0, e, hnx, nextO, hyo, hv7]
        exact ⟨n - (j + 1), by omega, hsub.trans t1, j + 1, by rw [hfil]; simpa using hT7, hwj, by omega, rfl⟩
  · have hjn : j = n := by omega
    simp [r0, r1, r2, r12, r13, hjl, r7.sl.np, hsub]
    unfold sideZ
    rw [hjn] at r7; exact r7
end Go.Proofs.Ytpjebmdeaieniaa.tree
