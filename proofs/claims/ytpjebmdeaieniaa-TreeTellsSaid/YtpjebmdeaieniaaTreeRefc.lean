/-
  The reference's neighbours; what is no tree.
-/
import Derived.Test.YtpjebmdeaieniaaTreeRefb
namespace Go.Proofs.Ytpjebmdeaieniaa.tree
open Go Go.Am
set_option linter.unusedVariables false
set_option linter.unusedSimpArgs false

/-- Is i one of b's neighbours? -/
def isNb (p : Nat → Nat) (b i : Nat) : Bool := (decide (0 < i) && decide (p i = b)) || (decide (0 < b) && decide (p b = i))
theorem adj_filter {p : Nat → Nat} (hp : Par p) (b : Nat) : ∀ k, (List.range k).filter (isNb p b) = (if b ≠ 0 ∧ p b < k then [p b] else []) ++ (List.range k).filter (fun c => decide (0 < c) && decide (p c = b)) := by
  intro k
  induction k with
  | zero => simp
  | succ k ih =>
    rw [List.range_succ, List.filter_append, List.filter_append, ih]
    by_cases hb : b = 0
    · subst hb
      have h1 : isNb p 0 = fun c => decide (0 < c) && decide (p c = 0) := by funext c; simp [isNb]
      rw [h1]; simp
    · have hpb := hp b (by omega)
      by_cases hk : p b = k
      · have h2 : ∀ c, c ∈ List.range (k + 1) → (decide (0 < c) && decide (p c = b)) = false := by
          intro c hc
          have hc' : c < k + 1 := List.mem_range.1 hc
          by_cases h0 : 0 < c
          · have := hp c h0
            have : ¬ p c = b := by omega
            simp [this]
          · simp [h0]
        have h3 : (List.range k).filter (fun c => decide (0 < c) && decide (p c = b)) = [] := List.filter_eq_nil_iff.2 fun c hc => by
          rw [h2 c (List.mem_range.2 (by have := List.mem_range.1 hc; omega))]; simp
        have h4 : [k].filter (fun c => decide (0 < c) && decide (p c = b)) = [] := List.filter_eq_nil_iff.2 fun c hc => by
          simp at hc; subst hc; rw [h2 c (List.mem_range.2 (by omega))]; simp
        have h5 : isNb p b k = true := by simp [isNb, hk]; right; omega
        rw [h3, h4, List.append_nil, List.append_nil, List.append_nil, if_neg (by omega), if_pos ⟨hb, by omega⟩, hk]
        simp [h5]
      · have h6 : isNb p b k = (decide (0 < k) && decide (p k = b)) := by simp [isNb, hk]
        have h7 : (if b ≠ 0 ∧ p b < k + 1 then [p b] else []) = (if b ≠ 0 ∧ p b < k then [p b] else []) := by
          have h8 : (b ≠ 0 ∧ p b < k + 1) = (b ≠ 0 ∧ p b < k) := by apply propext; omega
          simp only [h8]
        rw [h7, List.append_assoc]
        congr 2
        rw [List.filter_cons, List.filter_cons, h6]; simp
theorem adjOf_filter {p : Nat → Nat} (hp : Par p) {n b : Nat} (hb : b < n) : adjOf p n b = (List.range n).filter (isNb p b) := by
  rw [adj_filter hp]
  unfold adjOf
  congr 1
  by_cases h : b = 0
  · simp [h]
  · have := hp b (by omega)
    rw [if_neg h, if_pos ⟨h, by omega⟩]

theorem fn20 : C0.fns.get 20 = some Try.f20 := by kernel_rfl
theorem ok20 : codeOk C0 Try.f20.ntmps (Try.f20.body.getD .skip) = true := by kernel_rfl
theorem nt20 : Try.f20.ntmps = 46 := by kernel_rfl
def rnbI (S : AS) (ri : Nat) (p : Nat → Nat) (n : Nat) (b : Int) (k : Nat) (F' : Fr) (S' : AS) : Prop := ∃ j : Nat, Sub S S' ∧ sl F' 0 = .ptr ri 0 0 1 ∧ sl F' 1 = .int .i64 b ∧ Own S' S.next (sl F' 5) 1 3 (ints (if inT n b then (List.range j).filter (isNb p b.toNat) else [])) ∧ sl F' 6 = .int .i64 j ∧ j ≤ n ∧ k = n - j
set_option maxHeartbeats 1000000 in
theorem rneighbours {S : AS} {ri : Nat} {pv : AV} {l : List Int} (hv : Valid l) (h : RefP S ri pv l) (b : Int) :
    CallW C0 20 [.ptr ri 0 0 1, .int .i64 b] S fun v T => Sub S T ∧ Own T S.next v 1 3 (ints (adjZ (parOf l) l.length b)) := by
  refine enterW (pu0 _) (pr0 _ rfl) fn20 rfl ok20 (by simp) fun F hn hs => ?_
  rw [nt20] at hn
  have s0 := hs 0
  have s1 := hs 1
  clear hs
  simp only [List.getElem?_cons_zero, List.getElem?_cons_succ, Option.getD_some] at s0 s1
  have hn64 := hv.hi
  have hp := hv.par
  simp [s0, s1]
  refine loopP_of (rnbI S ri (parOf l) l.length b) l.length ⟨0, Sub.refl S, by simp [s0], by simp [s1], by simpa [ints] using Own.nil, by simp, by omega, by omega⟩ ?_
  rintro k F' S' hn' ⟨j, hsub, r0, r1, r5, r6, hj, hk⟩
  have h' := h.sub hsub
  have h1 := h'.at_
  have h2 := h'.sl.sl
  have h3 : sLen pv = l.length := by rw [h'.sl.len1, intZ_len]
  generalize hv5 : sl F' 5 = v5 at r5
  by_cases hjl : j < l.length
  · have hwj : IntKind.i64.wrap ((j : Int) + 1) = ((j + 1 : Nat) : Int) := wrap_succ (by omega)
    by_cases b1 : 0 ≤ b
    · by_cases b2 : b < l.length
      · obtain ⟨c, rfl⟩ : ∃ c : Nat, b = c := ⟨b.toNat, by omega⟩
        have hc : c < l.length := by omega
        have hin : inT l.length (c : Int) := ⟨by omega, by omega⟩
        rw [if_pos hin, Int.toNat_natCast] at r5
        have hfil : (List.range (j + 1)).filter (isNb (parOf l) c) = (List.range j).filter (isNb (parOf l) c) ++ (if isNb (parOf l) c j = true then [j] else []) := by
          rw [List.range_succ, List.filter_append]
          by_cases hh : isNb (parOf l) c j = true
          · simp [hh]
          · simp [hh]
        have hle : (ints ((List.range j).filter (isNb (parOf l) c))).length ≤ j := by
          rw [ints_len]
          have := List.length_filter_le (isNb (parOf l) c) (List.range j)
          simpa using this
        have get : ∀ i, i < l.length → l[i]? = some (if i = 0 then -1 else (parOf l i : Int)) := by
          intro i hi
          by_cases h0 : i = 0
          · subst h0; rw [hv.head]; rfl
          · obtain ⟨d, rfl⟩ : ∃ d, i = d + 1 := ⟨i - 1, by omega⟩
            rw [if_neg (by omega)]; exact hv.at_ hi
        obtain ⟨qj, hqj⟩ : ∃ q, q = (if j = 0 then -1 else (parOf l j : Int)) := ⟨_, rfl⟩
        obtain ⟨qc, hqc⟩ : ∃ q, q = (if c = 0 then -1 else (parOf l c : Int)) := ⟨_, rfl⟩
        have l1 := loadT_sl (cx := C0) (e := 3) h'.sl (k := j) (x := .int .i64 qj) (by rw [intZ, List.getElem?_map, get j hjl, hqj]; rfl) ag3
        have l2 := loadT_sl (cx := C0) (e := 3) h'.sl (k := c) (x := .int .i64 qc) (by rw [intZ, List.getElem?_map, get c hc, hqc]; rfl) ag3
        have e1 : qj = (c : Int) ↔ (0 < j ∧ parOf l j = c) := by
          rw [hqj]; split <;> omega
        have e2 : qc = (j : Int) ↔ (0 < c ∧ parOf l c = j) := by
          rw [hqc]; split <;> omega
        obtain ⟨v', T', e3, u1, u2, u3, u4, u5⟩ := append_one (cx := C0) (ts := []) (y := .int .i64 j) st22 rfl un22 rfl r5 hsub.next (by simp [fits, nble]; omega)
        by_cases c1 : qj = (c : Int)
        · have hin2 : isNb (parOf l) c j = true := by have := e1.1 c1; simp [isNb, this]
          rw [hin2] at hfil
          simp [r0, r1, r6, h1, h2, h3, ag22, ag3, fa35, hjl, ex0, callRis h', hc, l1, c1, hv5, st22, e3]
          refine ⟨l.length - (j + 1), by omega, j + 1, (hsub.stay (Nat.le_refl _)).trans u2 |>.sub, by simp [r0], by simp [r1], ?_, by simp [hwj], by omega, rfl⟩
          rw [if_pos hin, Int.toNat_natCast, hfil]; simpa [ints] using u1
        · by_cases c2 : qc = (j : Int)
          · have hin2 : isNb (parOf l) c j = true := by have := e2.1 c2; simp [isNb, this]
            rw [hin2] at hfil
            simp [r0, r1, r6, h1, h2, h3, ag22, ag3, fa35, hjl, ex0, callRis h', hc, l1, c1, l2, c2, hv5, st22, e3]
            refine ⟨l.length - (j + 1), by omega, j + 1, (hsub.stay (Nat.le_refl _)).trans u2 |>.sub, by simp [r0], by simp [r1], ?_, by simp [hwj], by omega, rfl⟩
            rw [if_pos hin, Int.toNat_natCast, hfil]; simpa [ints] using u1
          · have hin2 : isNb (parOf l) c j = false := by
              unfold isNb
              rw [Bool.or_eq_false_iff]
              constructor
              · rw [Bool.and_eq_false_iff, decide_eq_false_iff_not, decide_eq_false_iff_not]
                by_cases h0 : 0 < j
                · exact .inr fun e => c1 (e1.2 ⟨h0, e⟩)
                · exact .inl h0
              · rw [Bool.and_eq_false_iff, decide_eq_false_iff_not, decide_eq_false_iff_not]
                by_cases h0 : 0 < c
                · exact .inr fun e => c2 (e2.2 ⟨h0, e⟩)
                · exact .inl h0
            rw [hin2] at hfil
            simp [r0, r1, r6, h1, h2, h3, ag22, ag3, fa35, hjl, ex0, callRis h', hc, l1, c1, l2, c2, hv5, st22]
            refine ⟨l.length - (j + 1), by omega, j + 1, hsub, by simp [r0], by simp [r1], ?_, by simp [hwj], by omega, rfl⟩
            rw [if_pos hin, Int.toNat_natCast, hfil]; simpa [hv5] using r5
      · have hin : ¬ inT l.length b := fun e => b2 e.2
        rw [if_neg hin] at r5
        simp [r0, r1, r6, h1, h2, h3, ag22, ag3, fa35, st22, hjl, ex0, callRis h', b1, b2]
        refine ⟨l.length - (j + 1), by omega, j + 1, hsub, by simp [r0], by simp [r1], ?_, by simp [hwj], by omega, rfl⟩
        rw [if_neg hin]; simpa [hv5] using r5
    · have hin : ¬ inT l.length b := fun e => b1 e.1
      rw [if_neg hin] at r5
      simp [r0, r1, r6, h1, h2, h3, ag22, ag3, fa35, st22, hjl, ex0, callRis h', b1]
      refine ⟨l.length - (j + 1), by omega, j + 1, hsub, by simp [r0], by simp [r1], ?_, by simp [hwj], by omega, rfl⟩
      rw [if_neg hin]; simpa [hv5] using r5
  · have hjn : j = l.length := by omega
    simp [r0, r1, r6, h1, h2, h3, ag22, fa35, st22, hjl, hv5, r5.sl.np, hsub]
    unfold adjZ
    rw [hjn] at r5
    by_cases hin : inT l.length b
    · rw [if_pos hin] at r5 ⊢
      rw [adjOf_filter hp (by have := hin.1; have := hin.2; omega)]
      exact r5
    · rw [if_neg hin] at r5 ⊢
      exact r5
end Go.Proofs.Ytpjebmdeaieniaa.tree
