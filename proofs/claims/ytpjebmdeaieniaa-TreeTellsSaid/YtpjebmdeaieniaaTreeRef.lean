/-
  The reference's tree.
-/
import Derived.Test.YtpjebmdeaieniaaTreeNew
namespace Go.Proofs.Ytpjebmdeaieniaa.tree
open Go Go.Am
set_option linter.unusedVariables false
set_option linter.unusedSimpArgs false

/-! ### The plain part -/
def upsF (p : Nat → Nat) : Nat → Nat → List Nat
  | 0, b => [b]
  | k + 1, b => if b = 0 then [0] else b :: upsF p k (p b)
def ups (p : Nat → Nat) (b : Nat) : List Nat := upsF p b b
theorem upsF_more {p : Nat → Nat} (hp : Par p) : ∀ (k b : Nat), b ≤ k → upsF p k b = upsF p b b := by
  intro k
  induction k using Nat.strongRecOn with
  | ind k ih =>
    intro b h
    cases k with
    | zero => rw [show b = 0 by omega]
    | succ k =>
      cases b with
      | zero => simp [upsF]
      | succ b =>
        have h3 := hp (b + 1) (Nat.succ_pos _)
        simp only [upsF]
        rw [if_neg (by omega), if_neg (by omega), ih k (by omega) _ (by omega), ih b (by omega) _ (by omega)]
theorem ups_zero (p : Nat → Nat) : ups p 0 = [0] := rfl
theorem ups_succ {p : Nat → Nat} (hp : Par p) {b : Nat} (h : 0 < b) : ups p b = b :: ups p (p b) := by
  unfold ups
  obtain ⟨k, rfl⟩ : ∃ k, b = k + 1 := ⟨b - 1, by omega⟩
  have h3 := hp (k + 1) (Nat.succ_pos _)
  simp only [upsF]
  rw [if_neg (by omega), upsF_more hp k _ (by omega)]
theorem ups_head {p : Nat → Nat} (hp : Par p) (b : Nat) : ∃ t, ups p b = b :: t := by
  rcases Nat.eq_zero_or_pos b with rfl | h
  · exact ⟨[], rfl⟩
  · exact ⟨_, ups_succ hp h⟩
theorem ups_le {p : Nat → Nat} (hp : Par p) : ∀ (b x : Nat), x ∈ ups p b → x ≤ b := by
  intro b
  induction b using Nat.strongRecOn with
  | ind b ih =>
    intro x hx
    rcases Nat.eq_zero_or_pos b with rfl | h
    · rw [ups_zero] at hx; simp at hx; omega
    · rw [ups_succ hp h] at hx
      have h3 := hp b h
      rcases List.mem_cons.1 hx with rfl | hx
      · exact Nat.le_refl _
      · have := ih _ h3 x hx; omega
theorem ups_len {p : Nat → Nat} (hp : Par p) : ∀ b : Nat, (ups p b).length ≤ b + 1 := by
  intro b
  induction b using Nat.strongRecOn with
  | ind b ih =>
    rcases Nat.eq_zero_or_pos b with rfl | h
    · simp [ups_zero]
    · rw [ups_succ hp h]
      have h3 := hp b h
      have := ih _ h3
      simp; omega
/-- Where the two ways up meet. -/
structure Meet (U D w : List Nat) (i j : Nat) : Prop where
  i1 : 1 ≤ i
  j1 : 1 ≤ j
  iu : i ≤ U.length
  jd : j ≤ D.length
  same : U.drop (i - 1) = D.drop (j - 1)
  stop : i = 1 ∨ j = 1 ∨ U[i - 2]? ≠ D[j - 2]?
  way : w = U.take i ++ (D.take (j - 1)).reverse
theorem meet {p : Nat → Nat} (hp : Par p) (a b : Nat) : ∃ i j, Meet (ups p a) (ups p b) (way p a b) i j := by
  refine way_ind hp (M := fun a b => ∃ i j, Meet (ups p a) (ups p b) (way p a b) i j) (fun a => ?_) (fun a b h ⟨i, j, m⟩ => ?_) (fun a b h ⟨i, j, m⟩ => ?_) a b
  · obtain ⟨t, e⟩ := ups_head hp a
    exact ⟨1, 1, ⟨Nat.le_refl _, Nat.le_refl _, by rw [e]; simp, by rw [e]; simp, rfl, .inl rfl, by rw [way_same hp, e]; simp⟩⟩
  · have hu := ups_succ hp (show 0 < a by omega)
    obtain ⟨i1, j1, iu, jd, sm, st, wy⟩ := m
    obtain ⟨k, rfl⟩ : ∃ k, i = k + 1 := ⟨i - 1, by omega⟩
    refine ⟨k + 2, j, ⟨by omega, j1, by rw [hu]; simp; omega, jd, ?_, ?_, ?_⟩⟩
    · rw [hu]; exact sm
    · right
      by_cases hj : j = 1
      · exact .inl hj
      · right
        rw [hu]
        show (a :: ups p (p a))[k]? ≠ _
        cases k with
        | zero =>
          intro e
          have hm : a ∈ ups p b := List.mem_of_getElem? (by rw [← e]; rfl)
          have := ups_le hp b a hm; omega
        | succ k =>
          rw [List.getElem?_cons_succ]
          rcases st with st | st | st
          · omega
          · exact absurd st hj
          · exact st
    · rw [way_up hp h, wy, hu]; rfl
  · have hd := ups_succ hp (show 0 < b by omega)
    obtain ⟨i1, j1, iu, jd, sm, st, wy⟩ := m
    obtain ⟨k, rfl⟩ : ∃ k, j = k + 1 := ⟨j - 1, by omega⟩
    refine ⟨i, k + 2, ⟨i1, by omega, iu, by rw [hd]; simp; omega, ?_, ?_, ?_⟩⟩
    · rw [hd]; exact sm
    · by_cases hi : i = 1
      · exact .inl hi
      · right; right
        rw [hd]
        show _ ≠ (b :: ups p (p b))[k]?
        cases k with
        | zero =>
          intro e
          have hm : b ∈ ups p a := List.mem_of_getElem? (by rw [e]; rfl)
          have := ups_le hp a b hm; omega
        | succ k =>
          rw [List.getElem?_cons_succ]
          rcases st with st | st | st
          · exact absurd st hi
          · omega
          · exact st
    · rw [way_down hp h, wy, hd]
      show _ = _ ++ ((b :: ups p (p b)).take (k + 1)).reverse
      rw [List.take_succ_cons, List.reverse_cons, List.append_assoc]
      simp

/-! ### In memory -/
structure RefP (S : AS) (i : Nat) (pv : AV) (l : List Int) : Prop where
  lt : i < S.next
  at_ : S.h.get i = some (.row [pv] 0 0 false 35)
  sl : Sl S pv 1 (intZ l)
theorem RefP.sub {S T : AS} {i : Nat} {pv : AV} {l : List Int} (h : RefP S i pv l) (hs : Sub S T) : RefP T i pv l :=
  ⟨Nat.lt_of_lt_of_le h.lt hs.next, by rw [hs.h i h.lt]; exact h.at_, h.sl.toSub hs⟩

theorem fn27 : C0.fns.get 27 = some Try.f27 := by kernel_rfl
theorem ok27 : codeOk C0 Try.f27.ntmps (Try.f27.body.getD .skip) = true := by kernel_rfl
theorem risIn {S : AS} {i : Nat} {pv : AV} {l : List Int} (h : RefP S i pv l) (b : Int) : CallW C0 27 [.ptr i 0 0 1, .int .i64 b] S fun v T => v = .bool (decide (0 ≤ b) && decide (b < l.length)) ∧ T = S := by
  refine enterW (pu0 _) (pr0 _ rfl) fn27 rfl ok27 (by simp) fun F hn hs => ?_
  have s0 := hs 0
  have s1 := hs 1
  clear hs
  simp only [List.getElem?_cons_zero, List.getElem?_cons_succ, Option.getD_some] at s0 s1
  have h1 := h.at_
  have h2 := h.sl.sl
  have h3 : sLen pv = l.length := by rw [h.sl.len1, intZ_len]
  by_cases h0 : 0 ≤ b
  · simp [s0, s1, h0, h1, h2, h3, st22, ag22, fa35]
  · simp [s0, s1, h0]
theorem callRis {S : AS} {i : Nat} {pv : AV} {l : List Int} (h : RefP S i pv l) {b : Int} {Q : AV → AS → Prop} : CallW C0 27 [.ptr i 0 0 1, .int .i64 b] S Q = Q (.bool (decide (0 ≤ b) && decide (b < l.length))) S := (risIn h b).eq

theorem fn28 : C0.fns.get 28 = some Try.f28 := by kernel_rfl
theorem ok28 : codeOk C0 Try.f28.ntmps (Try.f28.body.getD .skip) = true := by kernel_rfl
theorem nt28 : Try.f28.ntmps = 20 := by kernel_rfl
/-- A number, or one below all. -/
def upI (S : AS) (i : Nat) (p : Nat → Nat) (n b0 : Nat) (k : Nat) (F' : Fr) (S' : AS) : Prop := Sub S S' ∧ sl F' 0 = .ptr i 0 0 1 ∧ ∃ pre : List Nat, Own S' S.next (sl F' 5) 1 3 (ints pre) ∧
  ((∃ b : Nat, sl F' 1 = .int .i64 b ∧ b < n ∧ pre ++ ups p b = ups p b0 ∧ k = b + 1) ∨ (sl F' 1 = .int .i64 (-1) ∧ pre = ups p b0 ∧ k = 0))
theorem rups {S : AS} {i : Nat} {pv : AV} {l : List Int} (hv : Valid l) (h : RefP S i pv l) {b : Nat} (hb : b < l.length) : CallW C0 28 [.ptr i 0 0 1, .int .i64 b] S fun v T => Sub S T ∧ Own T S.next v 1 3 (ints (ups (parOf l) b)) := by
  refine enterW (pu0 _) (pr0 _ rfl) fn28 rfl ok28 (by simp) fun F hn hs => ?_
  rw [nt28] at hn
  have s0 := hs 0
  have s1 := hs 1
  clear hs
  simp only [List.getElem?_cons_zero, List.getElem?_cons_succ, Option.getD_some] at s0 s1
  have hp := hv.par
  have h2 := h.sl.sl
  have h3 : sLen pv = l.length := by rw [h.sl.len1, intZ_len]
  have hn64 := hv.hi
  simp [s0, s1]
  refine loopP_of (upI S i (parOf l) l.length b) (b + 1) ⟨Sub.refl S, by simp [s0], [], by simpa [ints] using Own.nil, .inl ⟨b, by simp [s1], hb, rfl, rfl⟩⟩ ?_
  rintro k F' S' hn' ⟨hsub, r0, pre, r5, hk⟩
  have h' := h.sub hsub
  have h1 := h'.at_
  generalize hv5 : sl F' 5 = v5 at r5
  rcases hk with ⟨c, r1, hc, he, hk⟩ | ⟨r1, he, hk⟩
  · have hpl : pre.length ≤ 100 := by
      have := ups_len hp b
      have h4 : pre.length ≤ (ups (parOf l) b).length := by rw [← he]; simp
      omega
    obtain ⟨v', T, e, o1, o2, _, _, _, _⟩ := append_one (cx := C0) (ts := []) (y := .int .i64 (c : Nat)) st22 rfl un22 rfl r5 hsub.next (by rw [ints_len]; simp [fits, nble]; omega)
    have subT : Sub S T := (hsub.stay (Nat.le_refl _)).trans o2 |>.sub
    have hT := h.sub subT
    have hT1 := hT.at_
    rcases Nat.eq_zero_or_pos c with h0 | h0
    · subst h0
      have l1 := loadT_sl (cx := C0) (e := 3) hT.sl (k := 0) (x := .int .i64 (-1)) (by rw [intZ, List.getElem?_map, hv.head]; rfl) ag3
      have hl0 : 0 < l.length := hc
      have hl1 : ¬ l = [] := by intro e; rw [e] at hl0; simp at hl0
      simp at r1 e
      simp [r0, r1, hv5, st22, e, hT1, ag22, fa35, h2, h3, l1, ag3, hl0, hl1]
      refine ⟨0, by omega, subT, by simp [r0], pre ++ [0], ?_, .inr ⟨by simp, ?_, rfl⟩⟩
      · simpa [ints] using o1
      · rw [← he, ups_zero]
    · obtain ⟨d, rfl⟩ : ∃ d, c = d + 1 := ⟨c - 1, by omega⟩
      have hpc := hp (d + 1) h0
      have l1 := loadT_sl (cx := C0) (e := 3) hT.sl (k := d + 1) (x := .int .i64 (parOf l (d + 1) : Nat)) (by rw [intZ, List.getElem?_map, hv.at_ hc]; rfl) ag3
      have ed : ((d + 1 : Nat) : Int) = (d : Int) + 1 := by omega
      have z1 : (0 : Int) ≤ (d : Int) + 1 := by omega
      have z2 : (d : Int) + 1 < l.length := by omega
      rw [ed] at r1 e
      simp [r0, r1, hv5, st22, e, hT1, ag22, fa35, h2, h3, l1, ag3, z1, z2]
      refine ⟨parOf l (d + 1) + 1, by omega, subT, by simp [r0], pre ++ [d + 1], ?_, .inl ⟨parOf l (d + 1), by simp, by omega, ?_, rfl⟩⟩
      · simpa [ints] using o1
      · rw [← he, ups_succ hp h0]; simp
  · simp [r0, r1, hv5, r5.sl.np, hsub]
    rw [← he]; exact r5
end Go.Proofs.Ytpjebmdeaieniaa.tree
