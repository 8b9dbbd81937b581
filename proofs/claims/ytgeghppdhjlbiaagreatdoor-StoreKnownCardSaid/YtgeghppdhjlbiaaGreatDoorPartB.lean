/-
  slices.partitionEqualOrdered at numbers.
  slices.partialInsertionSortOrdered at numbers.
  slices.choosePivotOrdered at numbers: where the pivot lies.
  math/bits.Len of small numbers; slices.breakPatternsOrdered.
  slices.breakPatternsOrdered at numbers: a turn of places.
  slices.pdqsortOrdered, slices.Sort at numbers: a sorted turn of places.
-/
import Derived.Test.YtgeghppdhjlbiaaGreatDoorPartA
namespace Go.Proofs.YtgeghppdhjlbiaaGreatDoor.mod
open Go Go.Am
set_option linter.unusedVariables false
set_option linter.unusedSimpArgs false

section
variable {S : AS} {v : AV} {d : Array Nat}
theorem nt219 : Tryz.f219.ntmps = 84 := by kernel_rfl
theorem partEqLoop_eq' (a i j I J : Nat) (d : Array Nat) (hI : I = Sort.scanUp (fun x => !ltN (nth d a) x) d j i) (hJ : J = Sort.scanDown (fun x => ltN (nth d a) x) d I j) : Sort.partEqLoop ltN a i j d = if I > J then (I, d) else Sort.partEqLoop ltN a (I + 1) (J - 1) (Sort.swp d I J) := by
  subst hJ
  subst hI
  exact Sort.partEqLoop_eq ltN a i j d
def peqH (S : AS) (v : AV) (d : Array Nat) (a b : Nat) (R : Nat × Array Nat) (k : Nat) (F' : Fr) (S' : AS) : Prop :=
  ∃ (i j : Nat) (d' : Array Nat), NumAt S' v d' ∧ KeepV v S S' ∧ d'.size = d.size ∧ Sort.partEqLoop ltN a i j d' = R ∧ sl F' 0 = v ∧ sl F' 1 = .int .i64 a ∧ sl F' 9 = .int .i64 i ∧ sl F' 10 = .int .i64 j ∧ F'.n = 84 ∧ a < i ∧ i ≤ j + 1 ∧ j < b ∧ k = j + 1 - i
theorem peqH_mk {S : AS} {v : AV} {d : Array Nat} {a b : Nat} {R : Nat × Array Nat} {k : Nat} {F' : Fr} {S' : AS} (i j : Nat) (d' : Array Nat) (h1 : NumAt S' v d') (h2 : KeepV v S S') (h3 : d'.size = d.size) (h4 : Sort.partEqLoop ltN a i j d' = R) (h5 : sl F' 0 = v) (h6 : sl F' 1 = .int .i64 a) (h7 : sl F' 9 = .int .i64 i) (h8 : sl F' 10 = .int .i64 j) (h9 : F'.n = 84) (h10 : a < i) (h11 : i ≤ j + 1) (h12 : j < b) (h13 : k = j + 1 - i) : peqH S v d a b R k F' S' :=
  ⟨i, j, d', h1, h2, h3, h4, h5, h6, h7, h8, h9, h10, h11, h12, h13⟩
set_option maxRecDepth 20000 in
theorem peq_sort (h : NumAt S v d) {a b pivot : Nat} (hap : a ≤ pivot) (hpb : pivot < b) (hb : b ≤ d.size) (hsz : d.size ≤ 1048576) : CallW C0 219 [v, .int .i64 a, .int .i64 b, .int .i64 pivot] S fun r T => r = .int .i64 (Sort.partitionEqual ltN d a b pivot).1 ∧ NumAt T v (Sort.partitionEqual ltN d a b pivot).2 ∧ KeepV v S T := by
  refine enterW (pu0 _) (pr0 _ rfl) fn219 rfl ok219 (by simp) fun F hn hs => ?_
  rw [nt219] at hn
  have s0 := hs 0
  have s1 := hs 1
  have s2 := hs 2
  have s3 := hs 3
  clear hs
  simp only [List.getElem?_cons_zero, List.getElem?_cons_succ, Option.getD_some] at s0 s1 s2 s3
  obtain ⟨b', rfl⟩ : ∃ b', b = b' + 1 := ⟨b - 1, by omega⟩
  have hw : IntKind.i64.wrap ((b' : Int) + 1 - 1) = (b' : Int) := by rw [show (b' : Int) + 1 - 1 = b' by omega]; exact IntWalk.i64_in _ (by omega)
  have hw' : IntKind.i64.wrap (b' : Int) = (b' : Int) := IntWalk.i64_in _ (by omega)
  have hwa := i64_add (n := a) (by omega)
  simp at s2
  have u1 := h.sl
  have u2 := h.len
  have wk := h.ok
  have okv := h.gw.1.ok
  have la := h.ld (i := a) (by omega)
  have qa : a < d.size := by omega
  have lp := h.ld (i := pivot) (by omega)
  have qp : pivot < d.size := by omega
  obtain ⟨T0, T1, e1, e2, g1, g2, g3⟩ := h.swap (i := a) (j := pivot) (by omega) (by omega)
  obtain ⟨R, hR⟩ : ∃ R, R = Sort.partitionEqual ltN d a (b' + 1) pivot := ⟨_, rfl⟩
  rw [← hR]
  simp [s0, s1, s2, s3]
  refine draws [.p, .p, .p, .p, .p, .p, .p, .r 0 0, .p, .p, .p, .r 0 0, .p, .e [], .p, .e []] (n := 84) (by kernel_rfl) (by simp [hn]) ?_
  simp [s0, s1, s2, s3, u1, u2, wk, okv, la, lp, qa, qp, e1, e2, hw, hw', hwa]
  refine loopP_of (peqH S v d a (b' + 1) R) (b' + 1 - (a + 1)) (peqH_mk (a + 1) b' _ g1 g2 (swp_size' _ _ _) (by rw [hR]; rfl) (by simp [s0]) (by simp [s1]) (by simp) (by simp) (by simp [hn]) (by omega) (by omega) (by omega) rfl) ?_
  clear s0 s1 s2 s3 hn u1 u2 wk okv la qa lp qp e1 e2 g1 g2 g3 hR
  rintro k F S1 hn' ⟨i, j, d', h1, h2, h3, h4, s0, s1, si, sj, hn, hai, hij, hjb, hk⟩
  clear hn'
  have u1 := h1.sl
  have u2 := h1.len
  have wk := h1.ok
  have okv := h1.gw.1.ok
  have la := h1.ld (i := a) (by omega)
  have qa : a < d'.size := by omega
  obtain ⟨I1, hI1⟩ : ∃ I1, I1 = Sort.scanUp (fun x => !ltN (nth d' a) x) d' j i := ⟨_, rfl⟩
  obtain ⟨J1, hJ1⟩ : ∃ J1, J1 = Sort.scanDown (fun x => ltN (nth d' a) x) d' I1 j := ⟨_, rfl⟩
  rw [partEqLoop_eq' a i j I1 J1 d' hI1 hJ1] at h4
  have bI := Sort.scanUp_spec (fun x => !ltN (nth d' a) x) d' j _ i rfl
  rw [← hI1] at bI
  have bJ := Sort.scanDown_spec (fun x => ltN (nth d' a) x) d' I1 j
  rw [← hJ1] at bJ
  have bI2 := bI.2.1 (by omega)
  have bJ2 := bJ.2.1 bI2
  have bI1 := bI.1
  have bJ1 := bJ.1
  have hlt1 : ¬ I1 > J1 → I1 < J1 := fun hh => by
    have h1 : (!ltN (nth d' a) (nth d' I1)) = false := bI.2.2.2 (by omega)
    have h2 : ltN (nth d' a) (nth d' J1) = false := bJ.2.2.2 (by omega) (by omega)
    rcases Nat.lt_or_ge I1 J1 with h3 | h3
    · exact h3
    · have h4 : I1 = J1 := by omega
      rw [h4, h2] at h1
      cases h1
  clear bI bJ
  rw [wpP_block]
  simp only [wpP_seq]
  refine cut_of (scnM S1 v a 84 9 10 I1 j) ?_ ?_
  · rw [wpP_block, wpP_loop]
    refine loopP_of (upH S1 v a (fun x => !ltN (nth d' a) x) d' j I1 84 9 10) (j + 1 - i) (upH_mk i (by simp [s0]) (by simp [s1]) (by simp [sj]) (by simp [si]) hI1.symm (by omega) (by omega) (by simp [hn]) rfl) ?_
    clear s0 s1 si sj hn
    rintro k2 F2 S2 hn2 ⟨e0, i, s0, s1, sj, si, hI, hai, hij, hn, hk2⟩
    subst e0
    clear hn2
    have hwi := i64_add (n := i) (by omega)
    simp [s0, s1, si, sj]
    refine draws [.p, .p, .p, .p, .p, .p, .p, .r 0 0, .p, .p, .p, .r 0 0, .e [], .p, .p] (n := 84) (by kernel_rfl) (by simp [hn]) ?_
    by_cases hc : i ≤ j
    · have li := h1.ld (i := i) (by omega)
      have qi : i < d'.size := by omega
      cases hl : ltN (nth d' a) (nth d' i) with
      | false =>
        rw [scanUp_yes hc (by show (!ltN _ _) = true; rw [hl]; rfl)] at hI
        simp [s0, s1, si, sj, hc, u1, u2, wk, okv, li, la, qi, qa, less_sort, hl, ex0]
        exact ⟨j + 1 - (i + 1), by omega, upH_mk (i + 1) (by simp [s0]) (by simp [s1]) (by simp [sj]) (by simp [hwi]) hI (by omega) (by omega) (by simp [hn]) rfl⟩
      | true =>
        rw [scanUp_no (fun _ => by show (!ltN _ _) = false; rw [hl]; rfl)] at hI
        simp [s0, s1, si, sj, hc, u1, u2, wk, okv, li, la, qi, qa, less_sort, hl, ex0]
        exact scnM_mk (by simp [s0]) (by simp [s1]) (by simp [si, hI]) (by simp [sj]) (by simp [hn])
    · rw [scanUp_no (fun hh => absurd hh hc)] at hI
      simp [s0, s1, si, sj, hc, okW_undef]
      exact scnM_mk (by simp [s0]) (by simp [s1]) (by simp [si, hI]) (by simp [sj]) (by simp [hn])
  clear s0 s1 hn si sj
  rintro F T ⟨e0, s0, s1, si, sj, hn⟩
  subst e0
  simp [-wpP_block, kcode_app, s0, s1, si, sj]
  refine cut_of (scnM T v a 84 9 10 I1 J1) ?_ ?_
  · rw [wpP_block, wpP_loop]
    refine loopP_of (dnH T v a (fun x => ltN (nth d' a) x) d' I1 J1 84 9 10) j (dnH_mk j (by simp [s0]) (by simp [s1]) (by simp [sj]) (by simp [si]) hJ1.symm (by omega) (by omega) (by simp [hn]) rfl) ?_
    clear s0 s1 si sj hn
    rintro k2 F2 S2 hn2 ⟨rfl, j, s0, s1, sj, si, hJ, hij, hjb, hn, hk2⟩
    clear hn2
    simp [s0, s1, si, sj]
    refine draws [.p, .p, .p, .p, .p, .p, .p, .r 0 0, .p, .p, .p, .r 0 0, .e [], .p] (n := 84) (by kernel_rfl) (by simp [hn]) ?_
    by_cases hc : I1 ≤ j
    · obtain ⟨j2, rfl⟩ : ∃ j2, j = j2 + 1 := ⟨j - 1, by omega⟩
      have li := h1.ld (i := j2 + 1) (by omega)
      have qi : (j2 : Int) + 1 < d'.size := by omega
      have q0 : (0 : Int) ≤ (j2 : Int) + 1 := by omega
      have qt : ((j2 : Int) + 1).toNat = j2 + 1 := by omega
      have hcI : (I1 : Int) ≤ (j2 : Int) + 1 := by omega
      have hwj : IntKind.i64.wrap ((j2 : Int) + 1 - 1) = (j2 : Int) := by rw [show (j2 : Int) + 1 - 1 = j2 by omega]; exact IntWalk.i64_in _ (by omega)
      have hwj' : IntKind.i64.wrap (j2 : Int) = (j2 : Int) := IntWalk.i64_in _ (by omega)
      simp at sj
      cases hl : ltN (nth d' a) (nth d' (j2 + 1)) with
      | true =>
        rw [scanDown_yes hc (by show ltN _ _ = true; rw [hl])] at hJ
        simp [s0, s1, si, sj, hcI, u1, u2, wk, okv, li, la, qi, q0, qt, qa, less_sort, hl, ex0]
        exact ⟨j2, by omega, dnH_mk j2 (by simp [s0]) (by simp [s1]) (by simp [hwj, hwj']) (by simp [si]) hJ (by omega) (by omega) (by simp [hn]) rfl⟩
      | false =>
        rw [scanDown_no (fun _ => by show ltN _ _ = false; rw [hl])] at hJ
        simp [s0, s1, si, sj, hcI, u1, u2, wk, okv, li, la, qi, q0, qt, qa, less_sort, hl, ex0]
        exact scnM_mk (by simp [s0]) (by simp [s1]) (by simp [si]) (by simp [sj, ← hJ]) (by simp [hn])
    · have hcI : ¬ (I1 : Int) ≤ j := by omega
      rw [scanDown_no (fun hh => absurd hh hc)] at hJ
      simp [s0, s1, si, sj, hcI, okW_undef]
      exact scnM_mk (by simp [s0]) (by simp [s1]) (by simp [si]) (by simp [sj, ← hJ]) (by simp [hn])
  clear s0 s1 hn si sj
  rintro F T ⟨e0, s0, s1, si, sj, hn⟩
  subst e0
  by_cases hIJ : I1 > J1
  · rw [if_pos hIJ] at h4
    have hIJI : (J1 : Int) < I1 := by omega
    rw [← h4]
    simp [kcode_app, s0, s1, si, sj, hIJ]
    exact ⟨h1, h2⟩
  · rw [if_neg hIJ] at h4
    have hIJI : ¬ (J1 : Int) < I1 := by omega
    have hlt2 := hlt1 hIJ
    obtain ⟨U0, U1, f1, f2, t1, t2, t3⟩ := h1.swap (i := I1) (j := J1) (by omega) (by omega)
    have lj := h1.ld (i := J1) (by omega)
    have qj : J1 < d'.size := by omega
    have li := h1.ld (i := I1) (by omega)
    have qi : I1 < d'.size := by omega
    have hwi := i64_add (n := I1) (by omega)
    have hwj : IntKind.i64.wrap ((J1 : Int) - 1) = ((J1 - 1 : Nat) : Int) := by rw [i64_sub1 (by omega)]; omega
    simp [kcode_app, s0, s1, si, sj, hIJ]
    refine draws [.p, .p, .p, .p, .p, .p, .p, .r 0 0, .p, .p, .p, .r 0 0, .p, .e [], .p, .e []] (n := 84) (by kernel_rfl) (by simp [hn]) ?_
    simp [s0, s1, si, sj, u1, u2, wk, okv, li, lj, qi, qj, f1, f2]
    exact ⟨J1 - 1 + 1 - (I1 + 1), by omega, peqH_mk (I1 + 1) (J1 - 1) _ t1 (h2.trans t2) (by rw [swp_size']; exact h3) h4 (by simp [s0]) (by simp [s1]) (by simp [hwi]) (by simp [hwj]) (by simp [hn]) (by omega) (by omega) (by omega) rfl⟩
end
end Go.Proofs.YtgeghppdhjlbiaaGreatDoor.mod

namespace Go.Proofs.YtgeghppdhjlbiaaGreatDoor.mod
open Go Go.Am
set_option linter.unusedVariables false
set_option linter.unusedSimpArgs false

section
variable {S : AS} {v : AV} {d : Array Nat}
theorem scanSorted_yes {d : Array Nat} {b i : Nat} (h1 : i + 1 < b) (h2 : ltN (nth d (i + 1)) (nth d i) = false) : Sort.scanSorted ltN d b (i + 1) = Sort.scanSorted ltN d b (i + 2) := by
  conv => lhs; rw [Sort.scanSorted]
  rw [if_pos]
  rw [Bool.and_eq_true, decide_eq_true_eq]
  refine ⟨h1, ?_⟩
  show (!ltN (nth d (i + 1)) (nth d (i + 1 - 1))) = true
  rw [Nat.add_sub_cancel, h2]; rfl
theorem scanSorted_no {d : Array Nat} {b i : Nat} (h : i + 1 < b → ltN (nth d (i + 1)) (nth d i) = true) : Sort.scanSorted ltN d b (i + 1) = i + 1 := by
  rw [Sort.scanSorted, if_neg]
  rw [Bool.and_eq_true, decide_eq_true_eq]
  rintro ⟨h1, h2⟩
  have h3 : (!ltN (nth d (i + 1)) (nth d (i + 1 - 1))) = true := h2
  rw [Nat.add_sub_cancel, h h1] at h3
  cases h3
theorem scanSorted_bnd {d : Array Nat} {b : Nat} : ∀ (n i : Nat), b - i ≤ n → i ≤ Sort.scanSorted ltN d b i ∧ (i ≤ b → Sort.scanSorted ltN d b i ≤ b) := by
  intro n
  induction n with
  | zero =>
    intro i hn
    rw [Sort.scanSorted]
    split
    · rename_i hc
      simp only [Bool.and_eq_true, decide_eq_true_eq] at hc
      omega
    · exact ⟨Nat.le_refl _, fun h => h⟩
  | succ n ih =>
    intro i hn
    rw [Sort.scanSorted]
    split
    · rename_i hc
      simp only [Bool.and_eq_true, decide_eq_true_eq] at hc
      obtain ⟨h1, h2⟩ := ih (i + 1) (by omega)
      exact ⟨by omega, fun _ => h2 (by omega)⟩
    · exact ⟨Nat.le_refl _, fun h => h⟩
theorem shiftDown_one {d : Array Nat} {j : Nat} : Sort.shiftDown ltN (j + 1) d = if ltN (nth d (j + 1)) (nth d j) = true then Sort.shiftDown ltN j (Sort.swp d (j + 1) j) else d := by
  rw [Sort.shiftDown]
  show (if (!ltN (nth d (j + 1)) (nth d j)) = true then d else Sort.shiftDown ltN j (Sort.swp d (j + 1) j)) = _
  cases ltN (nth d (j + 1)) (nth d j) <;> simp
theorem shiftDown_size : ∀ (j : Nat) (d : Array Nat), (Sort.shiftDown ltN j d).size = d.size
  | 0, d => rfl
  | j + 1, d => by
    rw [shiftDown_one]
    split
    · rw [shiftDown_size j, swp_size']
    · rfl
theorem shiftUp_one {d : Array Nat} {b j : Nat} (h : j + 1 < b) : Sort.shiftUp ltN b (j + 1) d = if ltN (nth d (j + 1)) (nth d j) = true then Sort.shiftUp ltN b (j + 2) (Sort.swp d (j + 1) j) else d := by
  conv => lhs; rw [Sort.shiftUp]
  rw [if_pos h]
  show (if (!ltN (nth d (j + 1)) (nth d (j + 1 - 1))) = true then d else Sort.shiftUp ltN b (j + 1 + 1) (Sort.swp d (j + 1) (j + 1 - 1))) = _
  rw [Nat.add_sub_cancel]
  cases ltN (nth d (j + 1)) (nth d j) <;> simp
theorem shiftUp_end {d : Array Nat} {b j : Nat} (h : ¬ j < b) : Sort.shiftUp ltN b j d = d := by rw [Sort.shiftUp, if_neg h]
theorem shiftUp_size {b : Nat} : ∀ (n j : Nat) (d : Array Nat), b - j ≤ n → (Sort.shiftUp ltN b (j + 1) d).size = d.size := by
  intro n
  induction n with
  | zero => intro j d h; rw [shiftUp_end (by omega)]
  | succ n ih =>
    intro j d h
    by_cases hj : j + 1 < b
    · rw [shiftUp_one hj]
      split
      · rw [ih (j + 1) _ (by omega), swp_size']
      · rfl
    · rw [shiftUp_end hj]
theorem nt218 : Tryz.f218.ntmps = 133 := by kernel_rfl
/-- The slots of a round. -/
def parS (v : AV) (a b i st : Nat) (F' : Fr) : Prop := sl F' 0 = v ∧ sl F' 1 = .int .i64 a ∧ sl F' 2 = .int .i64 b ∧ sl F' 7 = .int .i64 i ∧ sl F' 8 = .int .i64 st ∧ F'.n = 133
def parH (S : AS) (v : AV) (d : Array Nat) (a b : Nat) (R : Array Nat × Bool) (k : Nat) (F' : Fr) (S' : AS) : Prop :=
  ∃ (i st : Nat) (d' : Array Nat), NumAt S' v d' ∧ KeepV v S S' ∧ d'.size = d.size ∧ Sort.partialIns ltN a b k i d' = R ∧ parS v a b i st F' ∧ a < i ∧ i ≤ b ∧ st + k = 5
/-- Behind a piece of a round: the row is so. -/
def parM (S : AS) (v : AV) (d d' : Array Nat) (a b i st : Nat) (F' : Fr) (S' : AS) : Prop := NumAt S' v d' ∧ KeepV v S S' ∧ parS v a b i st F'
def sdH (S : AS) (v : AV) (d : Array Nat) (a b i st : Nat) (R : Array Nat) (k : Nat) (F' : Fr) (S' : AS) : Prop :=
  ∃ d' : Array Nat, NumAt S' v d' ∧ KeepV v S S' ∧ d'.size = d.size ∧ Sort.shiftDown ltN k d' = R ∧ parS v a b i st F' ∧ sl F' 9 = .int .i64 k ∧ k < b
def suH (S : AS) (v : AV) (d : Array Nat) (a b i st : Nat) (R : Array Nat) (k : Nat) (F' : Fr) (S' : AS) : Prop :=
  ∃ (j : Nat) (d' : Array Nat), NumAt S' v d' ∧ KeepV v S S' ∧ d'.size = d.size ∧ Sort.shiftUp ltN b j d' = R ∧ parS v a b i st F' ∧ sl F' 10 = .int .i64 j ∧ 1 ≤ j ∧ j ≤ b ∧ k = b - j
def ssH (S1 : AS) (v : AV) (d : Array Nat) (a b st I : Nat) (k : Nat) (F' : Fr) (S' : AS) : Prop :=
  S' = S1 ∧ ∃ i, parS v a b i st F' ∧ Sort.scanSorted ltN d b i = I ∧ a < i ∧ i ≤ b ∧ k = b - i
set_option maxRecDepth 20000 in
theorem par_sort (h : NumAt S v d) {a b : Nat} (hab : a < b) (hb : b ≤ d.size) (hsz : d.size ≤ 1048576) : CallW C0 218 [v, .int .i64 a, .int .i64 b] S fun r T => r = .bool (Sort.partialInsertionSort ltN d a b).2 ∧ NumAt T v (Sort.partialInsertionSort ltN d a b).1 ∧ KeepV v S T := by
  refine enterW (pu0 _) (pr0 _ rfl) fn218 rfl ok218 (by simp) fun F hn hs => ?_
  rw [nt218] at hn
  have s0 := hs 0
  have s1 := hs 1
  have s2 := hs 2
  clear hs
  simp only [List.getElem?_cons_zero, List.getElem?_cons_succ, Option.getD_some] at s0 s1 s2
  have hw := i64_add (n := a) (by omega)
  simp [s0, s1, s2, hw]
  refine loopP_of (parH S v d a b (Sort.partialInsertionSort ltN d a b)) 5 ⟨a + 1, 0, d, h, Keep.refl, rfl, rfl, ⟨by simp [s0], by simp [s1], by simp [s2], by simp, by simp, by simp [hn]⟩, Nat.lt_succ_self _, hab, rfl⟩ ?_
  clear s0 s1 s2 hn hw
  rintro k F S1 hn' ⟨i, st, d', h1, h2, h3, h4, ⟨s0, s1, s2, s7, s8, hn⟩, hai, hib, hst⟩
  clear hn'
  have u1 := h1.sl
  have u2 := h1.len
  have wk := h1.ok
  have okv := h1.gw.1.ok
  cases k with
  | zero =>
    have h5 : ¬ (st : Int) < 5 := by omega
    have h4' : (d', false) = Sort.partialInsertionSort ltN d a b := h4
    rw [← h4']
    simp [s0, s1, s2, s7, s8, h5]
    exact ⟨h1, h2⟩
  | succ k =>
    have h5 : (st : Int) < 5 := by omega
    obtain ⟨I, hI⟩ : ∃ I, I = Sort.scanSorted ltN d' b i := ⟨_, rfl⟩
    have bI := scanSorted_bnd (d := d') (b := b) _ i (Nat.le_refl _)
    rw [← hI] at bI
    have bI1 := bI.1
    have bI2 := bI.2 hib
    clear bI
    simp [-wpP_block, s0, s1, s2, s7, s8, h5]
    rw [wpP_block]
    simp only [wpP_seq]
    refine cut_of (fun F' S' => S' = S1 ∧ parS v a b I st F') ?_ ?_
    · rw [wpP_block, wpP_loop]
      refine loopP_of (ssH S1 v d' a b st I) (b - i) ⟨rfl, i, ⟨by simp [s0], by simp [s1], by simp [s2], by simp [s7], by simp [s8], by simp [hn]⟩, hI.symm, hai, hib, rfl⟩ ?_
      clear s0 s1 s2 s7 s8 hn
      rintro k2 F2 S2 hn2 ⟨e0, i2, ⟨s0, s1, s2, s7, s8, hn⟩, hI2, hai2, hib2, hk2⟩
      subst e0
      clear hn2
      obtain ⟨m, rfl⟩ : ∃ m, i2 = m + 1 := ⟨i2 - 1, by omega⟩
      have hwm : IntKind.i64.wrap ((m : Int) + 1 - 1) = (m : Int) := by rw [show (m : Int) + 1 - 1 = m by omega]; exact IntWalk.i64_in _ (by omega)
      have hwm' : IntKind.i64.wrap (m : Int) = (m : Int) := IntWalk.i64_in _ (by omega)
      have hwm1 : IntKind.i64.wrap ((m : Int) + 1 + 1) = ((m + 2 : Nat) : Int) := by rw [IntWalk.i64_in _ (by omega)]; omega
      simp at s7
      simp [s0, s1, s2, s7, s8]
      refine draws [.p, .p, .p, .p, .p, .p, .p, .r 0 0, .p, .p, .p, .p, .r 0 0, .e [], .p, .p] (n := 133) (by kernel_rfl) (by simp [hn]) ?_
      by_cases hc : m + 1 < b
      · have hcI : (m : Int) + 1 < b := by omega
        have l1 := h1.ld (i := m + 1) (by omega)
        have l0 := h1.ld (i := m) (by omega)
        have q1 : (m : Int) + 1 < d'.size := by omega
        have q0 : (0 : Int) ≤ (m : Int) + 1 := by omega
        have qt : ((m : Int) + 1).toNat = m + 1 := by omega
        have qm : m < d'.size := by omega
        cases hl : ltN (nth d' (m + 1)) (nth d' m) with
        | false =>
          rw [scanSorted_yes hc hl] at hI2
          simp [s0, s1, s2, s7, s8, hcI, u1, u2, wk, okv, l1, l0, q1, q0, qt, qm, hwm, hwm', less_sort, hl, ex0]
          exact ⟨b - (m + 2), by omega, rfl, m + 2, ⟨by simp [s0], by simp [s1], by simp [s2], by simp [hwm1], by simp [s8], by simp [hn]⟩, hI2, by omega, by omega, rfl⟩
        | true =>
          rw [scanSorted_no (fun _ => hl)] at hI2
          simp [s0, s1, s2, s7, s8, hcI, u1, u2, wk, okv, l1, l0, q1, q0, qt, qm, hwm, hwm', less_sort, hl, ex0]
          exact ⟨by simp [s0], by simp [s1], by simp [s2], by simp [s7, ← hI2], by simp [s8], by simp [hn]⟩
      · rw [scanSorted_no (fun hh => absurd hh hc)] at hI2
        have hcI : ¬ (m : Int) + 1 < b := by omega
        simp [s0, s1, s2, s7, s8, hcI, okW_undef]
        exact ⟨by simp [s0], by simp [s1], by simp [s2], by simp [s7, ← hI2], by simp [s8], by simp [hn]⟩
    clear s0 s1 s2 s7 s8 hn
    rintro F T ⟨e0, s0, s1, s2, s7, s8, hn⟩
    subst e0
    rw [Sort.partialIns_succ, ← hI] at h4
    by_cases hIb : I = b
    · rw [if_pos hIb] at h4
      rw [← h4]
      rw [hIb] at s7
      simp [kcode_app, s0, s1, s2, s7, s8]
      exact ⟨h1, h2⟩
    rw [if_neg hIb] at h4
    have hIbI : ¬ (I : Int) = b := by omega
    have hwba : IntKind.i64.wrap ((b : Int) - a) = ((b - a : Nat) : Int) := by rw [IntWalk.i64_in _ (by omega)]; omega
    by_cases h50 : b - a < 50
    · rw [if_pos h50] at h4
      rw [← h4]
      have h50I : ((b - a : Nat) : Int) < 50 := by omega
      simp [kcode_app, s0, s1, s2, s7, s8, hIb, hIbI, hwba, h50, h50I]
      exact ⟨h1, h2⟩
    rw [if_neg h50] at h4
    have h50I : ¬ ((b - a : Nat) : Int) < 50 := by omega
    obtain ⟨m, rfl⟩ : ∃ m, I = m + 1 := ⟨I - 1, by omega⟩
    rw [Nat.add_sub_cancel] at h4
    have hwm : IntKind.i64.wrap ((m : Int) + 1 - 1) = (m : Int) := by rw [show (m : Int) + 1 - 1 = m by omega]; exact IntWalk.i64_in _ (by omega)
    have hwm' : IntKind.i64.wrap (m : Int) = (m : Int) := IntWalk.i64_in _ (by omega)
    have hwma : IntKind.i64.wrap ((m : Int) + 1 - a) = ((m + 1 - a : Nat) : Int) := by rw [IntWalk.i64_in _ (by omega)]; omega
    have hwbm : IntKind.i64.wrap ((b : Int) - ((m : Int) + 1)) = ((b - (m + 1) : Nat) : Int) := by rw [IntWalk.i64_in _ (by omega)]; omega
    have hwm2 : IntKind.i64.wrap ((m : Int) + 1 + 1) = ((m + 2 : Nat) : Int) := by rw [IntWalk.i64_in _ (by omega)]; omega
    have l1 := h1.ld (i := m + 1) (by omega)
    have l0 := h1.ld (i := m) (by omega)
    have q1 : (m : Int) + 1 < d'.size := by omega
    have q0 : (0 : Int) ≤ (m : Int) + 1 := by omega
    have qt : ((m : Int) + 1).toNat = m + 1 := by omega
    have qm : m < d'.size := by omega
    have hmb : ¬ m + 1 = b := hIb
    have hmbI : ¬ (m : Int) + 1 = b := by omega
    obtain ⟨T1, T2, e1, e2, t1, t2, t3⟩ := h1.swap (i := m + 1) (j := m) (by omega) (by omega)
    obtain ⟨d1, hd1⟩ : ∃ d1, d1 = Sort.swp d' (m + 1) m := ⟨_, rfl⟩
    rw [← hd1] at t1 h4
    have z1 : d1.size = d.size := by rw [hd1, swp_size']; exact h3
    obtain ⟨d2, hd2⟩ : ∃ d2, d2 = (if m + 1 - a ≥ 2 then Sort.shiftDown ltN m d1 else d1) := ⟨_, rfl⟩
    obtain ⟨d3, hd3⟩ : ∃ d3, d3 = (if b - (m + 1) ≥ 2 then Sort.shiftUp ltN b (m + 2) d2 else d2) := ⟨_, rfl⟩
    have z2 : d2.size = d.size := by
      rw [hd2]
      split
      · rw [shiftDown_size]; exact z1
      · exact z1
    have z3 : d3.size = d.size := by
      rw [hd3]
      split
      · rw [shiftUp_size _ (m + 1) _ (Nat.le_refl _)]; exact z2
      · exact z2
    replace h4 : Sort.partialIns ltN a b k (m + 1) d3 = Sort.partialInsertionSort ltN d a b := by
      rw [← h4, hd3, hd2]
      rfl
    simp at s7
    simp [-wpP_cond, kcode_app, s0, s1, s2, s7, s8]
    rw [wpP_cond]
    simp [-wpP_cond, kcode_app, s0, s1, s2, s7, s8, hmbI, hwba, h50, h50I]
    rw [wpP_cond]
    simp [-wpP_cond, kcode_app, s0, s1, s2, s7, s8, h50, h50I]
    refine draws [.p, .p, .p, .p, .p, .p, .p, .p, .p, .r 0 0, .p, .p, .p, .r 0 0, .p, .e [], .p, .e []] (n := 133) (by kernel_rfl) (by simp [hn]) ?_
    simp [-wpP_cond, kcode_app, s0, s1, s2, s7, s8, u1, u2, wk, okv, l1, l0, q1, q0, qt, qm, hwm, hwm', e1, e2, hwma]
    refine cut_of (parM S v d d2 a b (m + 1) st) ?_ ?_
    · by_cases hg : m + 1 - a ≥ 2
      · rw [if_pos hg] at hd2
        have hgI : (2 : Int) ≤ ((m + 1 - a : Nat) : Int) := by omega
        simp [kcode_app, s0, s1, s2, s7, s8, hg, hgI, hwm, hwm']
        refine loopP_of (sdH S v d a b (m + 1) st d2) m ⟨d1, t1, h2.trans t2, z1, hd2.symm, ⟨by simp [s0], by simp [s1], by simp [s2], by simp [s7], by simp [s8], by simp [hn]⟩, by simp, by omega⟩ ?_
        clear s0 s1 s2 s7 s8 hn
        rintro k2 F2 S2 hn2 ⟨dd, g1, g2, g3, g4, ⟨s0, s1, s2, s7, s8, hn⟩, s9, hk2⟩
        clear hn2
        have w1 := g1.sl
        have w2 := g1.len
        have wk := g1.ok
        have okv := g1.gw.1.ok
        simp at s7
        cases k2 with
        | zero =>
          have g4' : dd = d2 := g4
          simp [s0, s1, s2, s7, s8, s9]
          exact ⟨by rw [← g4']; exact g1, g2, ⟨by simp [s0], by simp [s1], by simp [s2], by simp [s7], by simp [s8], by simp [hn]⟩⟩
        | succ j =>
          have p1 := g1.ld (i := j + 1) (by omega)
          have p0 := g1.ld (i := j) (by omega)
          have c1 : (j : Int) + 1 < dd.size := by omega
          have c0 : (0 : Int) ≤ (j : Int) + 1 := by omega
          have ct : ((j : Int) + 1).toNat = j + 1 := by omega
          have cm : j < dd.size := by omega
          have c2 : (1 : Int) ≤ (j : Int) + 1 := by omega
          have hwj : IntKind.i64.wrap ((j : Int) + 1 - 1) = (j : Int) := by rw [show (j : Int) + 1 - 1 = j by omega]; exact IntWalk.i64_in _ (by omega)
          have hwj' : IntKind.i64.wrap (j : Int) = (j : Int) := IntWalk.i64_in _ (by omega)
          rw [shiftDown_one] at g4
          simp at s9
          simp [s0, s1, s2, s7, s8, s9, c2]
          refine draws [.p, .p, .p, .r 0 0, .p, .p, .p, .p, .r 0 0, .e [], .p] (n := 133) (by kernel_rfl) (by simp [hn]) ?_
          cases hl : ltN (nth dd (j + 1)) (nth dd j) with
          | true =>
            rw [hl, if_pos rfl] at g4
            obtain ⟨V1, V2, f1, f2, r1, r2, r3⟩ := g1.swap (i := j + 1) (j := j) (by omega) (by omega)
            simp [s0, s1, s2, s7, s8, s9, w1, w2, wk, okv, p1, p0, c1, c0, ct, cm, hwj, hwj', less_sort, hl, ex0]
            refine draws [.p, .p, .p, .p, .p, .p, .p, .p, .p, .r 0 0, .p, .p, .p, .r 0 0, .p, .e [], .p, .e []] (n := 133) (by kernel_rfl) (by simp [hn]) ?_
            simp [s0, s1, s2, s7, s8, s9, w1, w2, wk, okv, p1, p0, c1, c0, ct, cm, hwj, hwj', f1, f2]
            exact ⟨j, by omega, _, r1, g2.trans r2, by rw [swp_size']; exact g3, g4, ⟨by simp [s0], by simp [s1], by simp [s2], by simp [s7], by simp [s8], by simp [hn]⟩, by simp, by omega⟩
          | false =>
            rw [hl, if_neg (by simp)] at g4
            simp [s0, s1, s2, s7, s8, s9, w1, w2, wk, okv, p1, p0, c1, c0, ct, cm, hwj, hwj', less_sort, hl, ex0]
            exact ⟨by rw [← g4]; exact g1, g2, ⟨by simp [s0], by simp [s1], by simp [s2], by simp [s7], by simp [s8], by simp [hn]⟩⟩
      · rw [if_neg hg] at hd2
        have hgI : ¬ (2 : Int) ≤ ((m + 1 - a : Nat) : Int) := by omega
        simp [kcode_app, s0, s1, s2, s7, s8, hg, hgI]
        exact ⟨by rw [hd2]; exact t1, h2.trans t2, ⟨by simp [s0], by simp [s1], by simp [s2], by simp [s7], by simp [s8], by simp [hn]⟩⟩
    clear s0 s1 s2 s7 s8 hn t1 t2 t3 e1 e2 u1 u2 wk okv l1 l0 h1 h2 T1 T2 hd1 hd2
    rintro F T ⟨t1, h2, s0, s1, s2, s7, s8, hn⟩
    simp at s7
    simp [-wpP_cond, kcode_app, s0, s1, s2, s7, s8, hwbm]
    refine cut_end (parM S v d d3 a b (m + 1) st) ?_ ?_
    · by_cases hg : b - (m + 1) ≥ 2
      · rw [if_pos hg] at hd3
        have hgI : (2 : Int) ≤ ((b - (m + 1) : Nat) : Int) := by omega
        simp [kcode_app, s0, s1, s2, s7, s8, hg, hgI, hwm2]
        refine loopP_of (suH S v d a b (m + 1) st d3) (b - (m + 2)) ⟨m + 2, d2, t1, h2, z2, hd3.symm, ⟨by simp [s0], by simp [s1], by simp [s2], by simp [s7], by simp [s8], by simp [hn]⟩, by simp, by omega, by omega, rfl⟩ ?_
        clear s0 s1 s2 s7 s8 hn
        rintro k2 F2 S2 hn2 ⟨i2, dd, g1, g2, g3, g4, ⟨s0, s1, s2, s7, s8, hn⟩, s10, hi1, hi2, hk2⟩
        clear hn2
        have w1 := g1.sl
        have w2 := g1.len
        have wk := g1.ok
        have okv := g1.gw.1.ok
        simp at s7
        obtain ⟨j, rfl⟩ : ∃ j, i2 = j + 1 := ⟨i2 - 1, by omega⟩
        simp at s10
        by_cases hjb : j + 1 < b
        · have p1 := g1.ld (i := j + 1) (by omega)
          have p0 := g1.ld (i := j) (by omega)
          have c1 : (j : Int) + 1 < dd.size := by omega
          have c0 : (0 : Int) ≤ (j : Int) + 1 := by omega
          have ct : ((j : Int) + 1).toNat = j + 1 := by omega
          have cm : j < dd.size := by omega
          have c2 : (j : Int) + 1 < b := by omega
          have hwj : IntKind.i64.wrap ((j : Int) + 1 - 1) = (j : Int) := by rw [show (j : Int) + 1 - 1 = j by omega]; exact IntWalk.i64_in _ (by omega)
          have hwj' : IntKind.i64.wrap (j : Int) = (j : Int) := IntWalk.i64_in _ (by omega)
          have hwj2 : IntKind.i64.wrap ((j : Int) + 1 + 1) = ((j + 1 + 1 : Nat) : Int) := by rw [IntWalk.i64_in _ (by omega)]; omega
          rw [shiftUp_one hjb] at g4
          simp [s0, s1, s2, s7, s8, s10, c2]
          refine draws [.p, .p, .p, .r 0 0, .p, .p, .p, .p, .r 0 0, .e [], .p] (n := 133) (by kernel_rfl) (by simp [hn]) ?_
          cases hl : ltN (nth dd (j + 1)) (nth dd j) with
          | true =>
            rw [hl, if_pos rfl] at g4
            obtain ⟨V1, V2, f1, f2, r1, r2, r3⟩ := g1.swap (i := j + 1) (j := j) (by omega) (by omega)
            simp [s0, s1, s2, s7, s8, s10, w1, w2, wk, okv, p1, p0, c1, c0, ct, cm, hwj, hwj', less_sort, hl, ex0]
            refine draws [.p, .p, .p, .p, .p, .p, .p, .p, .p, .r 0 0, .p, .p, .p, .r 0 0, .p, .e [], .p, .e []] (n := 133) (by kernel_rfl) (by simp [hn]) ?_
            simp [s0, s1, s2, s7, s8, s10, w1, w2, wk, okv, p1, p0, c1, c0, ct, cm, hwj, hwj', f1, f2]
            exact ⟨b - (j + 1 + 1), by omega, j + 1 + 1, _, r1, g2.trans r2, by rw [swp_size']; exact g3, g4, ⟨by simp [s0], by simp [s1], by simp [s2], by simp [s7], by simp [s8], by simp [hn]⟩, by simp [hwj2], by omega, by omega, rfl⟩
          | false =>
            rw [hl, if_neg (by simp)] at g4
            simp [s0, s1, s2, s7, s8, s10, w1, w2, wk, okv, p1, p0, c1, c0, ct, cm, hwj, hwj', less_sort, hl, ex0]
            exact ⟨by rw [← g4]; exact g1, g2, ⟨by simp [s0], by simp [s1], by simp [s2], by simp [s7], by simp [s8], by simp [hn]⟩⟩
        · rw [shiftUp_end hjb] at g4
          have c2 : ¬ (j : Int) + 1 < b := by omega
          simp [s0, s1, s2, s7, s8, s10, c2]
          exact ⟨by rw [← g4]; exact g1, g2, ⟨by simp [s0], by simp [s1], by simp [s2], by simp [s7], by simp [s8], by simp [hn]⟩⟩
      · rw [if_neg hg] at hd3
        have hgI : ¬ (2 : Int) ≤ ((b - (m + 1) : Nat) : Int) := by omega
        simp [kcode_app, s0, s1, s2, s7, s8, hg, hgI]
        exact ⟨by rw [hd3]; exact t1, h2, ⟨by simp [s0], by simp [s1], by simp [s2], by simp [s7], by simp [s8], by simp [hn]⟩⟩
    clear s0 s1 s2 s7 s8 hn t1 h2 hd3
    rintro F T ⟨t1, h2, s0, s1, s2, s7, s8, hn⟩
    simp at s7
    have hws := i64_add (n := st) (by omega)
    simp [kcode_app, s0, s1, s2, s7, s8]
    exact ⟨k, by omega, m + 1, st + 1, d3, t1, h2, z3, h4, ⟨by simp [s0], by simp [s1], by simp [s2], by simp [s7], by simp [hws], by simp [hn]⟩, by omega, by omega, by omega⟩
end
end Go.Proofs.YtgeghppdhjlbiaaGreatDoor.mod

namespace Go.Proofs.YtgeghppdhjlbiaaGreatDoor.mod
open Go Go.Am
set_option linter.unusedVariables false
set_option linter.unusedSimpArgs false

/-- A row, and a count beside it. -/
structure PivS (S : AS) (v : AV) (d : Array Nat) (B : Nat) : Prop where
  num : NumAt S v d
  box : ∃ m : Int, S.h.get B = some (.row [.int .i64 m] 0 0 false 3)
  lt : B < S.next
  ne : bnd v ≠ B + 1
section
variable {S : AS} {v : AV} {d : Array Nat} {B : Nat}
theorem PivS.put (h : PivS S v d B) (m : Int) : PivS ⟨S.h.set B (.row [.int .i64 m] 0 0 false 3), S.next⟩ v d B :=
  ⟨h.num.agree (fun id e => get_set_ne _ _ (fun e2 => h.ne (by rw [e, e2]))) (Nat.le_refl _), ⟨m, get_set_same _ _ _⟩, h.lt, h.ne⟩
theorem nt304 : Tryz.f304.ntmps = 28 := by kernel_rfl
set_option maxRecDepth 20000 in
theorem ord2_sort (h : PivS S v d B) {a b : Nat} (ha : a < d.size) (hb : b < d.size) : CallW C0 304 [v, .int .i64 a, .int .i64 b, .ptr B 0 0 1] S fun r T => ∃ x y : Nat, r = .tuple [.int .i64 x, .int .i64 y] ∧ ((x = a ∧ y = b) ∨ (x = b ∧ y = a)) ∧ PivS T v d B ∧ Keep (fun id => id = B) S T := by
  refine enterW (pu0 _) (pr0 _ rfl) fn304 rfl ok304 (by simp) fun F hn hs => ?_
  rw [nt304] at hn
  have s0 := hs 0
  have s1 := hs 1
  have s2 := hs 2
  have s3 := hs 3
  clear hs
  simp only [List.getElem?_cons_zero, List.getElem?_cons_succ, Option.getD_some] at s0 s1 s2 s3
  have u1 := h.num.sl
  have u2 := h.num.len
  have wk := h.num.ok
  have okv := h.num.gw.1.ok
  have la := h.num.ld ha
  have lb := h.num.ld hb
  obtain ⟨m, hm⟩ := h.box
  simp [s0, s1, s2, s3]
  refine draws [.p, .p, .p, .r 0 0, .p, .p, .p, .r 0 0, .e []] (n := 28) (by kernel_rfl) (by simp [hn]) ?_
  cases hl : ltN (nth d b) (nth d a) with
  | true =>
    simp [s0, s1, s2, s3, u1, u2, wk, okv, la, lb, ha, hb, less_sort, hl, ex0, hm]
    exact ⟨b, a, ⟨rfl, rfl⟩, .inr ⟨rfl, rfl⟩, h.put _, Keep.refl.set (.inr rfl) (Nat.le_refl _)⟩
  | false =>
    simp [s0, s1, s2, s3, u1, u2, wk, okv, la, lb, ha, hb, less_sort, hl, ex0, hm]
    exact ⟨a, b, ⟨rfl, rfl⟩, .inl ⟨rfl, rfl⟩, h, Keep.refl⟩
theorem med_sort (h : PivS S v d B) {a b c : Nat} (ha : a < d.size) (hb : b < d.size) (hc : c < d.size) : CallW C0 274 [v, .int .i64 a, .int .i64 b, .int .i64 c, .ptr B 0 0 1] S fun r T => ∃ x : Nat, r = .int .i64 x ∧ (x = a ∨ x = b ∨ x = c) ∧ PivS T v d B ∧ Keep (fun id => id = B) S T := by
  obtain ⟨r, T1, ⟨x1, y1, rfl, c1, h1, k1⟩, e1⟩ := (ord2_sort h ha hb).ex
  have hx1 : x1 < d.size := by rcases c1 with ⟨rfl, rfl⟩ | ⟨rfl, rfl⟩ <;> omega
  have hy1 : y1 < d.size := by rcases c1 with ⟨rfl, rfl⟩ | ⟨rfl, rfl⟩ <;> omega
  obtain ⟨r, T2, ⟨x2, y2, rfl, c2, h2, k2⟩, e2⟩ := (ord2_sort h1 hy1 hc).ex
  have hx2 : x2 < d.size := by rcases c2 with ⟨rfl, rfl⟩ | ⟨rfl, rfl⟩ <;> omega
  obtain ⟨r, T3, ⟨x3, y3, rfl, c3, h3, k3⟩, e3⟩ := (ord2_sort h2 hx1 hx2).ex
  have wk := h.num.ok
  refine enterW (pu0 _) (pr0 _ rfl) fn274 rfl ok274 (by simp) fun F hn hs => ?_
  have s0 := hs 0
  have s1 := hs 1
  have s2 := hs 2
  have s3 := hs 3
  have s4 := hs 4
  clear hs
  simp only [List.getElem?_cons_zero, List.getElem?_cons_succ, Option.getD_some] at s0 s1 s2 s3 s4
  simp [s0, s1, s2, s3, s4, e1, e2, e3, ex0, wk]
  refine ⟨y3, rfl, ?_, h3, (k1.trans k2).trans k3⟩
  rcases c1 with ⟨rfl, rfl⟩ | ⟨rfl, rfl⟩ <;> rcases c2 with ⟨rfl, rfl⟩ | ⟨rfl, rfl⟩ <;> rcases c3 with ⟨rfl, rfl⟩ | ⟨rfl, rfl⟩ <;> simp
theorem madj_sort (h : PivS S v d B) {a : Nat} (h1 : 1 ≤ a) (ha : a + 1 < d.size) (hsz : d.size ≤ 1048576) : CallW C0 273 [v, .int .i64 a, .ptr B 0 0 1] S fun r T => ∃ x : Nat, r = .int .i64 x ∧ (a ≤ x + 1 ∧ x ≤ a + 1) ∧ PivS T v d B ∧ Keep (fun id => id = B) S T := by
  obtain ⟨m, rfl⟩ : ∃ m, a = m + 1 := ⟨a - 1, by omega⟩
  obtain ⟨r, T1, ⟨x1, rfl, c1, h1', k1⟩, e1⟩ := (med_sort h (a := m) (b := m + 1) (c := m + 2) (by omega) (by omega) (by omega)).ex
  have wk := h.num.ok
  have hw1 : IntKind.i64.wrap ((m : Int) + 1 - 1) = (m : Int) := by rw [show (m : Int) + 1 - 1 = m by omega]; exact IntWalk.i64_in _ (by omega)
  have hw1' : IntKind.i64.wrap (m : Int) = (m : Int) := IntWalk.i64_in _ (by omega)
  have hw2 : IntKind.i64.wrap ((m : Int) + 1 + 1) = (m : Int) + 2 := by rw [IntWalk.i64_in _ (by omega)]; omega
  refine enterW (pu0 _) (pr0 _ rfl) fn273 rfl ok273 (by simp) fun F hn hs => ?_
  have s0 := hs 0
  have s1 := hs 1
  have s2 := hs 2
  clear hs
  simp only [List.getElem?_cons_zero, List.getElem?_cons_succ, Option.getD_some] at s0 s1 s2
  simp at s1 e1
  simp [s0, s1, s2, hw1, hw1', hw2, e1, ex0, wk]
  exact ⟨x1, rfl, by omega, h1', k1⟩
set_option maxRecDepth 20000 in
theorem piv_sort (h : NumAt S v d) {a b : Nat} (hab : a + 8 < b) (hb : b ≤ d.size) (hsz : d.size ≤ 1048576) : CallW C0 216 [v, .int .i64 a, .int .i64 b] S fun r T => ∃ p hint : Nat, r = .tuple [.int .i64 p, .int .i64 hint] ∧ a ≤ p ∧ p < b ∧ Sub S T := by
  have wk := h.ok
  have hold := h.gw.1.old
  obtain ⟨l, hl⟩ : ∃ l, l = b - a := ⟨_, rfl⟩
  obtain ⟨q, hq⟩ : ∃ q, q = l / 4 := ⟨_, rfl⟩
  have hq4 : q * 4 ≤ l := by omega
  have hq12 : 50 ≤ l → 12 ≤ q := by omega
  obtain ⟨i, hi⟩ : ∃ i, i = a + q := ⟨_, rfl⟩
  obtain ⟨j, hj⟩ : ∃ j, j = a + q * 2 := ⟨_, rfl⟩
  obtain ⟨k, hk⟩ : ∃ k, k = a + q * 3 := ⟨_, rfl⟩
  have w2 : Int.tdiv (l : Int) 4 = (q : Int) := by rw [hq]; rfl
  clear hq
  have hq2 : 2 ≤ q := by
    rcases Nat.lt_or_ge q 2 with h | h
    · exfalso
      have h1 : Int.tdiv (l : Int) 4 = ((l / 4 : Nat) : Int) := rfl
      omega
    · exact h
  have bk : k + q ≤ b := by omega
  have bkd : k + 1 < d.size := by omega
  have bij : a + 2 ≤ i ∧ i < j ∧ j < k := by omega
  have bi1 : i < d.size := by omega
  have bj1 : j < d.size := by omega
  have bk1 : k < d.size := by omega
  have w1 : IntKind.i64.wrap ((b : Int) - a) = (l : Int) := by rw [IntWalk.i64_in _ (by omega)]; omega
  have w2' : IntKind.i64.wrap (q : Int) = (q : Int) := IntWalk.i64_in _ (by omega)
  have w3 : IntKind.i64.wrap ((q : Int) * 2) = ((q * 2 : Nat) : Int) := by rw [IntWalk.i64_in _ (by omega)]; omega
  have w4 : IntKind.i64.wrap ((q : Int) * 3) = ((q * 3 : Nat) : Int) := by rw [IntWalk.i64_in _ (by omega)]; omega
  have w5 : IntKind.i64.wrap ((a : Int) + q) = (i : Int) := by rw [IntWalk.i64_in _ (by omega)]; omega
  have w6 : IntKind.i64.wrap ((a : Int) + (q : Int) * 2) = (j : Int) := by rw [IntWalk.i64_in _ (by omega)]; omega
  have w7 : IntKind.i64.wrap ((a : Int) + (q : Int) * 3) = (k : Int) := by rw [IntWalk.i64_in _ (by omega)]; omega
  have hA : Sub S ⟨S.h.set S.next (.row [.int .i64 0] 0 0 false 3), S.next + 1⟩ := sub1
  have hP : PivS ⟨S.h.set S.next (.row [.int .i64 0] 0 0 false 3), S.next + 1⟩ v d S.next := ⟨h.sub hA, ⟨0, get_set_same _ _ _⟩, Nat.lt_succ_self _, by omega⟩
  have h8 : (8 : Int) ≤ l := by omega
  refine enterW (pu0 _) (pr0 _ rfl) fn216 rfl ok216 (by simp) fun F hn hs => ?_
  have s0 := hs 0
  have s1 := hs 1
  have s2 := hs 2
  clear hs
  simp only [List.getElem?_cons_zero, List.getElem?_cons_succ, Option.getD_some] at s0 s1 s2
  have fin : ∀ T : AS, Keep (fun id => id = S.next) ⟨S.h.set S.next (.row [.int .i64 0] 0 0 false 3), S.next + 1⟩ T → Sub S T := fun T hk => ⟨fun id hid => (hk.h id (Nat.lt_succ_of_lt hid) (fun e => by omega)).trans (hA.h id hid), Nat.le_trans (Nat.le_succ _) hk.next⟩
  by_cases h50 : 50 ≤ l
  · have h50I : (50 : Int) ≤ l := by omega
    obtain ⟨r, T1, ⟨i', rfl, c1, p1, k1⟩, e1⟩ := (madj_sort hP (a := i) (by clear w1 w2 w2' w3 w4 w5 w6 w7; omega) (by clear w1 w2 w2' w3 w4 w5 w6 w7; omega) hsz).ex
    obtain ⟨r, T2, ⟨j', rfl, c2, p2, k2⟩, e2⟩ := (madj_sort p1 (a := j) (by clear w1 w2 w2' w3 w4 w5 w6 w7; omega) (by clear w1 w2 w2' w3 w4 w5 w6 w7; omega) hsz).ex
    obtain ⟨r, T3, ⟨k', rfl, c3, p3, k3⟩, e3⟩ := (madj_sort p2 (a := k) (by clear w1 w2 w2' w3 w4 w5 w6 w7; omega) (by clear w1 w2 w2' w3 w4 w5 w6 w7; omega) hsz).ex
    obtain ⟨r, T4, ⟨x, rfl, c4, p4, k4⟩, e4⟩ := (med_sort p3 (a := i') (b := j') (c := k') (by clear w1 w2 w2' w3 w4 w5 w6 w7; omega) (by clear w1 w2 w2' w3 w4 w5 w6 w7; omega) (by clear w1 w2 w2' w3 w4 w5 w6 w7; omega)).ex
    have bx : a ≤ x ∧ x < b := by have := hq12 h50; clear w1 w2 w2' w3 w4 w5 w6 w7; omega
    obtain ⟨m, hm⟩ := p4.box
    have hS := fin _ (((k1.trans k2).trans k3).trans k4)
    by_cases hm0 : m = 0
    · subst hm0
      simp [s0, s1, s2, w1, w2, w2', w3, w4, w5, w6, w7, h8, h50I, e1, e2, e3, e4, ex0, wk, hm]
      exact ⟨x, ⟨rfl, 1, rfl⟩, bx.1, bx.2, hS⟩
    by_cases hm1 : m = 12
    · subst hm1
      simp [s0, s1, s2, w1, w2, w2', w3, w4, w5, w6, w7, h8, h50I, e1, e2, e3, e4, ex0, wk, hm]
      exact ⟨x, ⟨rfl, 2, rfl⟩, bx.1, bx.2, hS⟩
    · simp [s0, s1, s2, w1, w2, w2', w3, w4, w5, w6, w7, h8, h50I, e1, e2, e3, e4, ex0, wk, hm, hm0, hm1]
      exact ⟨x, ⟨rfl, 0, rfl⟩, bx.1, bx.2, hS⟩
  · have h50I : ¬ (50 : Int) ≤ l := by omega
    obtain ⟨r, T4, ⟨x, rfl, c4, p4, k4⟩, e4⟩ := (med_sort hP (a := i) (b := j) (c := k) bi1 bj1 bk1).ex
    have bx : a ≤ x ∧ x < b := by clear w1 w2 w2' w3 w4 w5 w6 w7; omega
    obtain ⟨m, hm⟩ := p4.box
    have hS := fin _ k4
    by_cases hm0 : m = 0
    · subst hm0
      simp [s0, s1, s2, w1, w2, w2', w3, w4, w5, w6, w7, h8, h50I, e4, ex0, wk, hm]
      exact ⟨x, ⟨rfl, 1, rfl⟩, bx.1, bx.2, hS⟩
    by_cases hm1 : m = 12
    · subst hm1
      simp [s0, s1, s2, w1, w2, w2', w3, w4, w5, w6, w7, h8, h50I, e4, ex0, wk, hm]
      exact ⟨x, ⟨rfl, 2, rfl⟩, bx.1, bx.2, hS⟩
    · simp [s0, s1, s2, w1, w2, w2', w3, w4, w5, w6, w7, h8, h50I, e4, ex0, wk, hm, hm0, hm1]
      exact ⟨x, ⟨rfl, 0, rfl⟩, bx.1, bx.2, hS⟩
end
end Go.Proofs.YtgeghppdhjlbiaaGreatDoor.mod

namespace Go.Proofs.YtgeghppdhjlbiaaGreatDoor.mod
open Go Go.Am
set_option linter.unusedVariables false
set_option linter.unusedSimpArgs false

def lenN (x : Nat) : Nat := if 65536 ≤ x then 16 + Sort.bitsLen (x / 65536) else if 256 ≤ x then 8 + Sort.bitsLen (x / 256) else Sort.bitsLen x
theorem lenN_le {x : Nat} (h : 0 < x) : 2 ^ lenN x ≤ 2 * x := by
  unfold lenN
  split
  · have h1 := Sort.two_pow_bitsLen_le (n := x / 65536) (by omega)
    rw [Nat.pow_add]
    have : 2 ^ 16 = 65536 := rfl
    rw [this]
    have h2 := Nat.mul_le_mul_left 65536 h1
    omega
  split
  · have h1 := Sort.two_pow_bitsLen_le (n := x / 256) (by omega)
    rw [Nat.pow_add]
    have : 2 ^ 8 = 256 := rfl
    rw [this]
    have h2 := Nat.mul_le_mul_left 256 h1
    omega
  · exact Sort.two_pow_bitsLen_le h
section
variable {S : AS}
theorem shr_u64 (n k : Nat) (hk : k < 64) (t : TypeId) (c : Bool) : binV C0 .shr t c (.int .u64 n) (.int .u64 k) = some (.int .u64 ((n / 2 ^ k : Nat) : Int)) := by
  show some (forceI (Int.fdiv (n : Int) (.ofNat (Nat.pow 2 (Nat.min k IntKind.u64.bits)))) fun n => AV.int .u64 n) = _
  rw [forceI_eq]
  have h1 : Nat.min k IntKind.u64.bits = k := Nat.min_eq_left (Nat.le_of_lt hk)
  rw [h1]
  have h2 : (n : Int).fdiv (Int.ofNat (Nat.pow 2 k)) = ((n / 2 ^ k : Nat) : Int) := by
    show (n : Int).fdiv ((2 ^ k : Nat) : Int) = _
    rw [Int.fdiv_eq_ediv_of_nonneg _ (Int.natCast_nonneg _)]
    exact (Int.natCast_ediv n (2 ^ k)).symm
  rw [h2]
theorem cv38_5' : convT C0 38 5 = some .u8 := by kernel_rfl
noncomputable def tabOk (s : ByteArray) : Bool := (List.range 256).all fun i => match Am.nth i (mapL UInt8.toNat s.data.toList) with | some n => Nat.beq n (Sort.bitsLen i) | none => false
theorem tabOk_at {s : ByteArray} (h : tabOk s = true) {i : Nat} (hi : i < 256) : Am.nth i (mapL UInt8.toNat s.data.toList) = some (Sort.bitsLen i) := by
  have h1 := List.all_eq_true.1 h i (List.mem_range.2 hi)
  split at h1
  · rename_i n hn
    rw [hn, Nat.eq_of_beq_eq_true h1]
  · cases h1
theorem aop_tab {F : Fr} {S : AS} {dst : Option Tmp} {ty : TypeId} {pos : String} {af : Array Edge} {gd : Option (Nat × Bool)} {s : ByteArray} {x : Tmp} {k : IntKind} {y : Nat} (hx : sl F x = .int k y) (hy : y < 256) (h : tabOk s = true) :
    aop C0 F S ⟨dst, .index 9 (.const (.string s)) (.tmp x), ty, pos, af, gd⟩ = .val (.int .u8 (Sort.bitsLen y : Nat)) S := by
  have hu : und C0 9 = some .string := by kernel_rfl
  have e1 : eval F (.const (.string s)) = .str (mapL UInt8.toNat s.data.toList) := rfl
  simp only [aop, hu, e1, eval_tmp, hx, natOf_nat, tabOk_at h hy]
  rfl
theorem bl8 {y : Nat} (h : y < 256) : Sort.bitsLen y ≤ 8 := (Sort.bitsLen_le_iff y 8).2 h
theorem nt222 : Tryz.f222.ntmps = 25 := by kernel_rfl
set_option maxRecDepth 100000 in
theorem len64_sort {x : Nat} (hx : x < 1048577) {Q : AV → AS → Prop} : CallW C0 222 [.int .u64 x] S Q = Q (.int .i64 (lenN x : Nat)) S := by
  refine CallW.eq (enterW (pu0 _) (pr0 _ rfl) fn222 rfl ok222 (by simp) fun F hn hs => ?_)
  have s0 := hs 0
  clear hs
  simp only [List.getElem?_cons_zero, Option.getD_some] at s0
  have q1 : ¬ (4294967296 : Int) ≤ x := by omega
  obtain ⟨y, hy⟩ : ∃ y, y = x / 65536 := ⟨_, rfl⟩
  obtain ⟨z, hz⟩ : ∃ z, z = x / 256 := ⟨_, rfl⟩
  have r16 : ∀ c t, binV C0 .shr t c (.int .u64 x) (.int .u64 16) = some (.int .u64 (y : Int)) := fun c t => by rw [hy]; exact shr_u64 x 16 (by omega) t c
  have r8 : ∀ c t, binV C0 .shr t c (.int .u64 x) (.int .u64 8) = some (.int .u64 (z : Int)) := fun c t => by rw [hz]; exact shr_u64 x 8 (by omega) t c
  have y8 : y < 256 := by omega
  unfold lenN
  rw [← hy, ← hz]
  by_cases h16 : 65536 ≤ x
  · have h16I : (65536 : Int) ≤ x := by omega
    have q2 : ¬ (256 : Int) ≤ y := by omega
    have q3 : ¬ 256 ≤ y := by omega
    have wy : IntKind.u8.wrap (y : Int) = (y : Int) := by simp [IntKind.wrap, IntKind.bits, IntKind.signed]; omega
    simp [s0, q1, h16, h16I, r16, q2, q3, wy]
    rw [aop_tab (k := .u8) (y := y) (by simp) y8 (by kernel_rfl)]
    have hb := bl8 y8
    have e1 : IntKind.i64.wrap 16 = 16 := rfl
    have e2 : IntKind.i64.wrap (Sort.bitsLen y : Nat) = (Sort.bitsLen y : Nat) := IntWalk.i64_in _ (by omega)
    have e3 : IntKind.i64.wrap (16 + ((Sort.bitsLen y : Nat) : Int)) = 16 + ((Sort.bitsLen y : Nat) : Int) := IntWalk.i64_in _ (by omega)
    simp [e1, e2, e3]
  · have h16I : ¬ (65536 : Int) ≤ x := by omega
    by_cases h8 : 256 ≤ x
    · have h8I : (256 : Int) ≤ x := by omega
      have z8 : z < 256 := by omega
      have wz : IntKind.u8.wrap (z : Int) = (z : Int) := by simp [IntKind.wrap, IntKind.bits, IntKind.signed]; omega
      simp [s0, q1, h16, h16I, h8, h8I, r8, wz]
      rw [aop_tab (k := .u8) (y := z) (by simp) z8 (by kernel_rfl)]
      have hb := bl8 z8
      have e1 : IntKind.i64.wrap 8 = 8 := rfl
      have e2 : IntKind.i64.wrap (Sort.bitsLen z : Nat) = (Sort.bitsLen z : Nat) := IntWalk.i64_in _ (by omega)
      have e3 : IntKind.i64.wrap (8 + ((Sort.bitsLen z : Nat) : Int)) = 8 + ((Sort.bitsLen z : Nat) : Int) := IntWalk.i64_in _ (by omega)
      simp [e1, e2, e3]
    · have h8I : ¬ (256 : Int) ≤ x := by omega
      have x8 : x < 256 := by omega
      have wx : IntKind.u8.wrap (x : Int) = (x : Int) := by simp [IntKind.wrap, IntKind.bits, IntKind.signed]; omega
      simp [s0, q1, h16, h16I, h8, h8I, wx]
      rw [aop_tab (k := .u8) (y := x) (by simp) x8 (by kernel_rfl)]
      have hb := bl8 x8
      have e2 : IntKind.i64.wrap (Sort.bitsLen x : Nat) = (Sort.bitsLen x : Nat) := IntWalk.i64_in _ (by omega)
      have e3 : IntKind.i64.wrap (0 + ((Sort.bitsLen x : Nat) : Int)) = ((Sort.bitsLen x : Nat) : Int) := by rw [Int.zero_add]; exact e2
      simp [e2, e3]
theorem lenN_bnd {x : Nat} (hx : x < 1048577) : lenN x ≤ 24 := by
  unfold lenN
  split
  · have := bl8 (y := x / 65536) (by omega); omega
  split
  · have h : Sort.bitsLen (x / 256) ≤ 8 := bl8 (by omega)
    omega
  · have := bl8 (y := x) (by omega); omega
theorem len_sort {x : Nat} (hx : x < 1048577) {Q : AV → AS → Prop} : CallW C0 152 [.int .u64 x] S Q = Q (.int .i64 (lenN x : Nat)) S := by
  refine CallW.eq (enterW (pu0 _) (pr0 _ rfl) fn152 rfl ok152 (by simp) fun F hn hs => ?_)
  have s0 := hs 0
  clear hs
  simp only [List.getElem?_cons_zero, Option.getD_some] at s0
  simp [s0, len64_sort hx, ex0]
theorem shl_u64 (k : Nat) (hk : k < 64) (t : TypeId) (c : Bool) : binV C0 .shl t c (.int .u64 1) (.int .i64 k) = some (.int .u64 ((2 ^ k : Nat) : Int)) := by
  show some (mkI .u64 (Int.mul 1 (.ofNat (Nat.pow 2 (Nat.min k IntKind.u64.bits))))) = _
  have h1 : Nat.min k IntKind.u64.bits = k := Nat.min_eq_left (Nat.le_of_lt hk)
  rw [h1, mkI_eq]
  have h2 : Int.mul 1 (Int.ofNat (Nat.pow 2 k)) = ((2 ^ k : Nat) : Int) := Int.one_mul _
  have h3 : (2 : Nat) ^ k < 2 ^ 64 := Nat.pow_lt_pow_right (by omega) hk
  rw [h2]
  have h4 : IntKind.u64.wrap ((2 ^ k : Nat) : Int) = ((2 ^ k : Nat) : Int) := by
    generalize 2 ^ k = y at h3
    simp [IntKind.wrap, IntKind.bits, IntKind.signed]; omega
  rw [h4]
theorem wrap64 (n : Int) : ∃ m : Nat, m < 18446744073709551616 ∧ IntKind.u64.wrap n = (m : Int) := by
  have h : 0 ≤ IntKind.u64.wrap n ∧ IntKind.u64.wrap n < 18446744073709551616 := by simp [IntKind.wrap, IntKind.bits, IntKind.signed]; omega
  exact ⟨(IntKind.u64.wrap n).toNat, by omega, by omega⟩
theorem shl_some (a k : Nat) (t : TypeId) : ∃ m : Nat, m < 18446744073709551616 ∧ ∀ c, binV C0 .shl t c (.int .u64 a) (.int .u64 k) = some (.int .u64 (m : Int)) := by
  obtain ⟨m, h1, h2⟩ := wrap64 (Int.mul a (.ofNat (Nat.pow 2 (Nat.min k IntKind.u64.bits))))
  refine ⟨m, h1, fun c => ?_⟩
  show some (mkI .u64 (Int.mul a (.ofNat (Nat.pow 2 (Nat.min k IntKind.u64.bits))))) = _
  rw [mkI_eq, h2]
theorem shr_some (a k : Nat) (ha : a < 18446744073709551616) (hk : k < 64) (t : TypeId) : ∃ m : Nat, m < 18446744073709551616 ∧ ∀ c, binV C0 .shr t c (.int .u64 a) (.int .u64 k) = some (.int .u64 (m : Int)) :=
  ⟨a / 2 ^ k, Nat.lt_of_le_of_lt (Nat.div_le_self _ _) ha, fun c => shr_u64 a k hk t c⟩
theorem xor_some (a b : Nat) (ha : a < 18446744073709551616) (hb : b < 18446744073709551616) (t : TypeId) : ∃ m : Nat, m < 18446744073709551616 ∧ ∀ c, binV C0 .xor t c (.int .u64 a) (.int .u64 b) = some (.int .u64 (m : Int)) := by
  have key : ∃ m : Nat, m < 18446744073709551616 ∧ bitsI .xor .u64 a b = .int .u64 m := by
    show ∃ m : Nat, m < 18446744073709551616 ∧ cond (Nat.blt a (half .u64) && Nat.blt b (half .u64)) (forceN (Nat.xor a b) fun n => AV.int .u64 (Int.ofNat n)) (forceI (bitsS .xor .u64 a b) fun n => AV.int .u64 n) = AV.int .u64 m
    cases (Nat.blt a (half .u64) && Nat.blt b (half .u64)) with
    | true => exact ⟨a ^^^ b, Nat.xor_lt_two_pow (n := 64) ha hb, by rw [cond_true, forceN_eq]; rfl⟩
    | false =>
      obtain ⟨m, h1, h2⟩ := wrap64 (((BitVec.ofInt 64 a) ^^^ (BitVec.ofInt 64 b)).toNat : Int)
      refine ⟨m, h1, ?_⟩
      rw [cond_false, forceI_eq]
      show AV.int .u64 (IntKind.u64.wrap (((BitVec.ofInt 64 a) ^^^ (BitVec.ofInt 64 b)).toNat : Int)) = _
      rw [h2]
  obtain ⟨m, h1, h2⟩ := key
  refine ⟨m, h1, fun c => ?_⟩
  show cond (kindEq .u64 .u64) (some (bitsI .xor .u64 a b)) none = _
  rw [h2, kind_self]; rfl
theorem and_some (a b : Nat) (ha : a < 18446744073709551616) (hb : b < 18446744073709551616) (t : TypeId) : ∃ m : Nat, m ≤ b ∧ ∀ c, binV C0 .and t c (.int .u64 a) (.int .u64 b) = some (.int .u64 (m : Int)) := by
  have key : ∃ m : Nat, m ≤ b ∧ bitsI .and .u64 a b = .int .u64 m := by
    show ∃ m : Nat, m ≤ b ∧ cond (Nat.blt a (half .u64) && Nat.blt b (half .u64)) (forceN (Nat.land a b) fun n => AV.int .u64 (Int.ofNat n)) (forceI (bitsS .and .u64 a b) fun n => AV.int .u64 n) = AV.int .u64 m
    cases (Nat.blt a (half .u64) && Nat.blt b (half .u64)) with
    | true => exact ⟨a &&& b, Nat.and_le_right, by rw [cond_true, forceN_eq]; rfl⟩
    | false =>
      refine ⟨a &&& b, Nat.and_le_right, ?_⟩
      rw [cond_false, forceI_eq]
      show AV.int .u64 (IntKind.u64.wrap (((BitVec.ofInt 64 a) &&& (BitVec.ofInt 64 b)).toNat : Int)) = _
      have h1 : (BitVec.ofInt 64 (a : Int)).toNat = a := by simp; omega
      have h2 : (BitVec.ofInt 64 (b : Int)).toNat = b := by simp; omega
      rw [BitVec.toNat_and, h1, h2]
      have h3 : a &&& b ≤ b := Nat.and_le_right
      have h4 : IntKind.u64.wrap ((a &&& b : Nat) : Int) = ((a &&& b : Nat) : Int) := by
        generalize a &&& b = y at h3
        simp [IntKind.wrap, IntKind.bits, IntKind.signed]; omega
      rw [h4]
  obtain ⟨m, h1, h2⟩ := key
  refine ⟨m, h1, fun c => ?_⟩
  show cond (kindEq .u64 .u64) (some (bitsI .and .u64 a b)) none = _
  rw [h2, kind_self]; rfl
theorem np2_sort {x : Nat} (hx : x < 1048577) {Q : AV → AS → Prop} : CallW C0 271 [.int .i64 x] S Q = Q (.int .u64 ((2 ^ lenN x : Nat) : Int)) S := by
  refine CallW.eq (enterW (pu0 _) (pr0 _ rfl) fn271 rfl ok271 (by simp) fun F hn hs => ?_)
  have s0 := hs 0
  clear hs
  simp only [List.getElem?_cons_zero, Option.getD_some] at s0
  have hw : IntKind.u64.wrap (x : Int) = (x : Int) := by simp [IntKind.wrap, IntKind.bits, IntKind.signed]; omega
  have hs := fun c t => shl_u64 (lenN x) (by have := lenN_bnd hx; omega) t c
  simp [s0, hw, len_sort hx, ex0, hs]
end
end Go.Proofs.YtgeghppdhjlbiaaGreatDoor.mod

namespace Go.Proofs.YtgeghppdhjlbiaaGreatDoor.mod
open Go Go.Am
set_option linter.unusedVariables false
set_option linter.unusedSimpArgs false

section
variable {S : AS} {v : AV} {d : Array Nat}
theorem nt272 : Tryz.f272.ntmps = 33 := by kernel_rfl
set_option maxRecDepth 20000 in
theorem xor_sort {B n : Nat} (hB : S.h.get B = some (.row [.int .u64 n] 0 0 false 304)) (hn0 : n < 18446744073709551616) : CallW C0 272 [.ptr B 0 0 1] S fun r T => ∃ m : Nat, m < 18446744073709551616 ∧ r = .int .u64 m ∧ T.h.get B = some (.row [.int .u64 m] 0 0 false 304) ∧ Keep (fun id => id = B) S T ∧ T.next = S.next := by
  obtain ⟨a1, ha1, ea1⟩ := shl_some n 13 304
  obtain ⟨b1, hb1, eb1⟩ := xor_some n a1 hn0 ha1 304
  obtain ⟨a2, ha2, ea2⟩ := shr_some b1 7 hb1 (by omega) 304
  obtain ⟨b2, hb2, eb2⟩ := xor_some b1 a2 hb1 ha2 304
  obtain ⟨a3, ha3, ea3⟩ := shl_some b2 17 304
  obtain ⟨b3, hb3, eb3⟩ := xor_some b2 a3 hb2 ha3 304
  simp at ea1 ea2 ea3
  refine enterW (pu0 _) (pr0 _ rfl) fn272 rfl ok272 (by simp) fun F hn hs => ?_
  rw [nt272] at hn
  have s0 := hs 0
  clear hs
  simp only [List.getElem?_cons_zero, Option.getD_some] at s0
  simp [s0]
  refine draws [.p, .p, .r 0 0, .p, .p, .r 0 0, .p, .p, .p, .e []] (n := 33) (by kernel_rfl) (by simp [hn]) ?_
  simp [s0, hB, ea1, eb1]
  refine draws [.p, .p, .r 0 0, .p, .p, .r 0 0, .p, .p, .p, .e []] (n := 33) (by kernel_rfl) (by simp [hn]) ?_
  simp [s0, hB, ea2, eb2]
  refine draws [.p, .p, .r 0 0, .p, .p, .r 0 0, .p, .p, .p, .e []] (n := 33) (by kernel_rfl) (by simp [hn]) ?_
  simp [s0, hB, ea3, eb3]
  exact ⟨b3, hb3, rfl, ((Keep.refl.set (A := fun id => id = B) (.inr rfl) (Nat.le_refl _)).set (.inr rfl) (Nat.le_refl _)).set (.inr rfl) (Nat.le_refl _)⟩
theorem nt215 : Tryz.f215.ntmps = 65 := by kernel_rfl
def brkH (S : AS) (v : AV) (d : Array Nat) (a b l q M : Nat) (k : Nat) (F' : Fr) (S' : AS) : Prop :=
  ∃ (idx B r : Nat) (d' : Array Nat), NumAt S' v d' ∧ Keep (fun id => bnd v = id + 1) S S' ∧ Sort.PermIn a b d d' ∧ S'.h.get B = some (.row [.int .u64 r] 0 0 false 304) ∧ r < 18446744073709551616 ∧ S.next ≤ B ∧ B < S'.next ∧ bnd v ≠ B + 1 ∧ sl F' 0 = v ∧ sl F' 1 = .int .i64 a ∧ sl F' 6 = .int .i64 l ∧ sl F' 7 = .ptr B 0 0 1 ∧ sl F' 8 = .int .u64 M ∧ sl F' 9 = .int .i64 idx ∧ F'.n = 65 ∧ a ≤ idx ∧ idx ≤ a + q * 2 + 2 ∧ k = a + q * 2 + 2 - idx
set_option maxRecDepth 20000 in
theorem brk_sort (h : NumAt S v d) {a b : Nat} (hab : a + 8 < b) (hb : b ≤ d.size) (hsz : d.size ≤ 1048576) : CallW C0 215 [v, .int .i64 a, .int .i64 b] S fun r T => r = .tuple [] ∧ ∃ d', Sort.PermIn a b d d' ∧ NumAt T v d' ∧ KeepV v S T := by
  have wk := h.ok
  have hold := h.gw.1.old
  obtain ⟨l, hl⟩ : ∃ l, l = b - a := ⟨_, rfl⟩
  obtain ⟨q, hq⟩ : ∃ q, q = l / 4 := ⟨_, rfl⟩
  have hq4 : q * 4 ≤ l := by omega
  have hq2 : 2 ≤ q := by omega
  have w2 : Int.tdiv (l : Int) 4 = (q : Int) := by rw [hq]; rfl
  clear hq
  have w1 : IntKind.i64.wrap ((b : Int) - a) = (l : Int) := by rw [IntWalk.i64_in _ (by omega)]; omega
  have w2' : IntKind.i64.wrap (q : Int) = (q : Int) := IntWalk.i64_in _ (by omega)
  obtain ⟨q2, hq2'⟩ : ∃ q2, q2 = q * 2 := ⟨_, rfl⟩
  have w3 : IntKind.i64.wrap ((q : Int) * 2) = (q2 : Int) := by rw [IntWalk.i64_in _ (by omega)]; omega
  obtain ⟨y, hy⟩ : ∃ y, y = a + q2 := ⟨_, rfl⟩
  have w4 : IntKind.i64.wrap ((a : Int) + q2) = (y : Int) := by rw [IntWalk.i64_in _ (by omega)]; omega
  have w5 : IntKind.i64.wrap ((y : Int) - 1) = ((y - 1 : Nat) : Int) := by rw [i64_sub1 (by omega)]; omega
  have w6 := i64_add (n := y) (by omega)
  have wl : IntKind.u64.wrap (l : Int) = (l : Int) := by simp [IntKind.wrap, IntKind.bits, IntKind.signed]; omega
  have h8 : (8 : Int) ≤ l := by omega
  have hM := lenN_le (x := l) (by omega)
  have hMp : 0 < 2 ^ lenN l := Nat.pow_pos (by omega)
  obtain ⟨M, hMd⟩ : ∃ M, M = 2 ^ lenN l := ⟨_, rfl⟩
  rw [← hMd] at hM hMp
  have e0 := fun (S : AS) (Q : AV → AS → Prop) => np2_sort (S := S) (x := l) (by omega) (Q := Q)
  rw [← hMd] at e0
  refine enterW (pu0 _) (pr0 _ rfl) fn215 rfl ok215 (by simp) fun F hn hs => ?_
  rw [nt215] at hn
  have s0 := hs 0
  have s1 := hs 1
  have s2 := hs 2
  clear hs
  simp only [List.getElem?_cons_zero, List.getElem?_cons_succ, Option.getD_some] at s0 s1 s2
  have hA : Sub S ⟨(S.h.set S.next (.row [.int .u64 0] 0 0 false 304)).set S.next (.row [.int .u64 l] 0 0 false 304), S.next + 1⟩ := sub1s
  simp [s0, s1, s2, w1, w2, w2', w3, w4, w5, wl, h8, e0, ex0]
  refine loopP_of (brkH S v d a b l q M) (a + q * 2 + 2 - (y - 1)) ⟨y - 1, S.next, l, d, h.sub hA, hA.keep, Sort.permIn_refl d a b, get_set_same _ _ _, by omega, Nat.le_refl _, Nat.lt_succ_self _, by omega, by simp [s0], by simp [s1], by simp, by simp, by simp, by simp, by simp [hn], by omega, by omega, rfl⟩ ?_
  clear s0 s1 s2 hn hA w5 w1
  rintro k F' S' hn' ⟨idx, B, r, d', h1, h2, h3, hB, hr, hBS, hBl, hBv, s0, s1, s6, s7, s8, s9, hn, hi1, hi2, hk⟩
  clear hn'
  have u1 := h1.sl
  have u2 := h1.len
  have okv := h1.gw.1.ok
  have hds := h3.1
  by_cases hc : idx ≤ y + 1
  · have hcI : (idx : Int) ≤ (y : Int) + 1 := by omega
    obtain ⟨rr, T1, ⟨m, hm, rfl, hB1, k1, n1⟩, e1⟩ := (xor_sort hB hr).ex
    have wM : IntKind.u64.wrap ((M : Int) - 1) = ((M - 1 : Nat) : Int) := by
      rw [show ((M : Int) - 1) = ((M - 1 : Nat) : Int) by omega]
      generalize hz : M - 1 = z
      simp [IntKind.wrap, IntKind.bits, IntKind.signed]; omega
    obtain ⟨o, ho, e2⟩ := and_some m (M - 1) hm (by omega) 161
    have wo : IntKind.i64.wrap (o : Int) = (o : Int) := IntWalk.i64_in _ (by omega)
    have g1 : NumAt T1 v d' := h1.agree (fun id e => k1.h id (by have := h1.gw.1.old; omega) (fun e2 => hBv (by rw [e, e2]))) k1.next
    have wi := i64_add (n := idx) (by omega)
    have k2 : Keep (fun id => bnd v = id + 1) S T1 := ⟨fun id i1 i2 => (k1.h id (Nat.lt_of_lt_of_le i1 h2.next) (fun e => by omega)).trans (h2.h id i1 i2), Nat.le_trans h2.next k1.next⟩
    have fin : ∀ o' : Nat, o' < l → ∀ T2 T3 : AS, wrV T1 (pAt v idx) [.int .u64 (nth d' (a + o') : Nat)] = some T2 → wrV T2 (pAt v (a + o')) [.int .u64 (nth d' idx : Nat)] = some T3 → NumAt T3 v (Sort.swp d' idx (a + o')) → KeepV v T1 T3 → T3.next = T1.next → Sort.PermIn a b d (Sort.swp d' idx (a + o')) ∧ T3.h.get B = some (.row [.int .u64 m] 0 0 false 304) ∧ B < T3.next ∧ Keep (fun id => bnd v = id + 1) S T3 := fun o' ho' T2 T3 _ _ _ k3 n3 =>
      ⟨Sort.permIn_trans _ _ _ a b h3 (Sort.swp_permIn d' a b idx (a + o') hi1 (by omega) (by omega) (by omega) (by omega)), by rw [k3.h B (by omega) hBv]; exact hB1, by omega, k2.trans k3⟩
    by_cases hol : o < l
    · have holI : ¬ (l : Int) ≤ o := by omega
      obtain ⟨x, hx⟩ : ∃ x, x = a + o := ⟨_, rfl⟩
      have wx : IntKind.i64.wrap ((a : Int) + o) = (x : Int) := by rw [IntWalk.i64_in _ (by omega)]; omega
      obtain ⟨T2, T3, f1, f2, t1, t2, t3⟩ := g1.swap (i := idx) (j := x) (by omega) (by omega)
      rw [hx] at f1 f2 t1
      obtain ⟨p1, p2, p3, p4⟩ := fin o hol T2 T3 f1 f2 t1 t2 t3
      rw [← hx] at f1 f2 t1 p1
      have li := g1.ld (i := idx) (by omega)
      have lx := g1.ld (i := x) (by omega)
      have qi : idx < d'.size := by omega
      have qx : x < d'.size := by omega
      simp [s0, s1, s6, s7, s8, s9, w2, w2', w3, w4, w6, hcI, e1, ex0, wM, e2, wo, holI]
      refine draws [.p, .p, .p, .p, .p, .p, .p, .p, .p, .p, .p, .r 0 0, .p, .p, .p, .r 0 0, .p, .e [], .p, .e []] (n := 65) (by kernel_rfl) (by simp [hn]) ?_
      simp [s0, s1, s6, s7, s8, s9, u1, u2, wk, okv, wx, li, lx, qi, qx, f1, f2]
      exact ⟨a + q * 2 + 2 - (idx + 1), by omega, idx + 1, B, m, _, t1, p4, p1, p2, hm, hBS, p3, hBv, by simp [s0], by simp [s1], by simp [s6], by simp [s7], by simp [s8], by simp [wi], by simp [hn], by omega, by omega, rfl⟩
    · have holI : (l : Int) ≤ o := by omega
      obtain ⟨o2, ho2⟩ : ∃ o2, o2 = o - l := ⟨_, rfl⟩
      have wo2 : IntKind.i64.wrap ((o : Int) - l) = (o2 : Int) := by rw [IntWalk.i64_in _ (by omega)]; omega
      obtain ⟨x, hx⟩ : ∃ x, x = a + o2 := ⟨_, rfl⟩
      have wx : IntKind.i64.wrap ((a : Int) + o2) = (x : Int) := by rw [IntWalk.i64_in _ (by omega)]; omega
      obtain ⟨T2, T3, f1, f2, t1, t2, t3⟩ := g1.swap (i := idx) (j := x) (by omega) (by omega)
      rw [hx] at f1 f2 t1
      obtain ⟨p1, p2, p3, p4⟩ := fin o2 (by omega) T2 T3 f1 f2 t1 t2 t3
      rw [← hx] at f1 f2 t1 p1
      have li := g1.ld (i := idx) (by omega)
      have lx := g1.ld (i := x) (by omega)
      have qi : idx < d'.size := by omega
      have qx : x < d'.size := by omega
      simp [s0, s1, s6, s7, s8, s9, w2, w2', w3, w4, w6, hcI, e1, ex0, wM, e2, wo, holI, wo2]
      refine draws [.p, .p, .p, .p, .p, .p, .p, .p, .p, .p, .p, .r 0 0, .p, .p, .p, .r 0 0, .p, .e [], .p, .e []] (n := 65) (by kernel_rfl) (by simp [hn]) ?_
      simp [s0, s1, s6, s7, s8, s9, u1, u2, wk, okv, wx, li, lx, qi, qx, f1, f2]
      exact ⟨a + q * 2 + 2 - (idx + 1), by omega, idx + 1, B, m, _, t1, p4, p1, p2, hm, hBS, p3, hBv, by simp [s0], by simp [s1], by simp [s6], by simp [s7], by simp [s8], by simp [wi], by simp [hn], by omega, by omega, rfl⟩
  · have hcI : ¬ (idx : Int) ≤ (y : Int) + 1 := by omega
    simp [s0, s1, s6, s7, s8, s9, w2, w2', w3, w4, w6, hcI]
    exact ⟨d', h3, h1, h2⟩
end
end Go.Proofs.YtgeghppdhjlbiaaGreatDoor.mod

namespace Go.Proofs.YtgeghppdhjlbiaaGreatDoor.mod
open Go Go.Am
set_option linter.unusedVariables false
set_option linter.unusedSimpArgs false

/-- Within pdqsort: whatever sorts what is left sorts the whole. -/
structure Pd (S T : AS) (v : AV) (d d2 : Array Nat) (a b a2 b2 : Nat) : Prop where
  num : NumAt T v d2
  keep : KeepV v S T
  size : d2.size = d.size
  below : Sort.Below ltN a2 b2 d2
  fin : ∀ R, Sort.PermIn a2 b2 d2 R → Sort.SortedIn ltN a2 b2 R → Sort.PermIn a b d R ∧ Sort.SortedIn ltN a b R
section
variable {S T U : AS} {v : AV} {d d2 d3 : Array Nat} {a b a2 b2 : Nat}
theorem Pd.perm (h : Pd S T v d d2 a b a2 b2) (hb : b2 ≤ d.size) (hp : Sort.PermIn a2 b2 d2 d3) (hn : NumAt U v d3) (hk : KeepV v T U) : Pd S U v d d3 a b a2 b2 :=
  ⟨hn, h.keep.trans hk, hp.1.trans h.size, h.below.perm (by rw [h.size]; exact hb) hp, fun R hR hs => h.fin R (Sort.permIn_trans _ _ _ _ _ hp hR) hs⟩
def pdH (S : AS) (v : AV) (d : Array Nat) (a b : Nat) (k : Nat) (F' : Fr) (S' : AS) : Prop :=
  ∃ (a2 b2 : Nat) (lim : Int) (wb wp : Bool) (d2 : Array Nat), Pd S S' v d d2 a b a2 b2 ∧ sl F' 0 = v ∧ sl F' 1 = .int .i64 a2 ∧ sl F' 2 = .int .i64 b2 ∧ sl F' 3 = .int .i64 lim ∧ sl F' 8 = .bool wb ∧ sl F' 9 = .bool wp ∧ F'.n = 134 ∧ a ≤ a2 ∧ a2 ≤ b2 ∧ b2 ≤ b ∧ k = b2 - a2
def pdM (S : AS) (v : AV) (d : Array Nat) (a b a2 b2 l : Nat) (wb wp : Bool) (F' : Fr) (S' : AS) : Prop :=
  ∃ (lim : Int) (d2 : Array Nat), Pd S S' v d d2 a b a2 b2 ∧ sl F' 0 = v ∧ sl F' 1 = .int .i64 a2 ∧ sl F' 2 = .int .i64 b2 ∧ sl F' 3 = .int .i64 lim ∧ sl F' 8 = .bool wb ∧ sl F' 9 = .bool wp ∧ sl F' 10 = .int .i64 l ∧ F'.n = 134
def pdM2 (S : AS) (v : AV) (d : Array Nat) (a b a2 b2 l : Nat) (wb wp : Bool) (F' : Fr) (S' : AS) : Prop :=
  ∃ (lim : Int) (p hint : Nat) (d2 : Array Nat), Pd S S' v d d2 a b a2 b2 ∧ sl F' 0 = v ∧ sl F' 1 = .int .i64 a2 ∧ sl F' 2 = .int .i64 b2 ∧ sl F' 3 = .int .i64 lim ∧ sl F' 8 = .bool wb ∧ sl F' 9 = .bool wp ∧ sl F' 10 = .int .i64 l ∧ sl F' 11 = .int .i64 p ∧ sl F' 12 = .int .i64 hint ∧ a2 ≤ p ∧ p < b2 ∧ F'.n = 134
theorem nt151 : Tryz.f151.ntmps = 134 := by kernel_rfl
set_option maxRecDepth 20000 in
theorem pdq_sort {v : AV} : ∀ (N : Nat) (S : AS) (d : Array Nat) (a b : Nat) (lim : Int), d.size ≤ 1048576 → b - a < N → NumAt S v d → a ≤ b → b ≤ d.size → Sort.Below ltN a b d →
    CallW C0 151 [v, .int .i64 a, .int .i64 b, .int .i64 lim] S fun r T => r = .tuple [] ∧ ∃ d', Sort.PermIn a b d d' ∧ Sort.SortedIn ltN a b d' ∧ NumAt T v d' ∧ KeepV v S T := by
  intro N
  induction N with
  | zero => intro S d a b lim _ h; omega
  | succ N ih =>
    intro S d a b lim hsz hN h hab hb hB
    refine enterW (pu0 _) (pr0 _ rfl) fn151 rfl ok151 (by simp) fun F hn hs => ?_
    rw [nt151] at hn
    have s0 := hs 0
    have s1 := hs 1
    have s2 := hs 2
    have s3 := hs 3
    clear hs
    simp only [List.getElem?_cons_zero, List.getElem?_cons_succ, Option.getD_some] at s0 s1 s2 s3
    simp [s0, s1, s2, s3]
    refine loopP_of (pdH S v d a b) (b - a) ⟨a, b, lim, true, true, d, ⟨h, Keep.refl, rfl, hB, fun R hR hs => ⟨hR, hs⟩⟩, by simp [s0], by simp [s1], by simp [s2], by simp [s3], by simp, by simp, by simp [hn], Nat.le_refl _, hab, Nat.le_refl _, rfl⟩ ?_
    clear s0 s1 s2 s3 hn
    rintro k F S1 hn' ⟨a2, b2, lim, wb, wp, d2, hP, s0, s1, s2, s3, s8, s9, hn, ha2, hab2, hb2, hk⟩
    clear hn'
    have wk := hP.num.ok
    have hsz2 := hP.size
    obtain ⟨l, hl⟩ : ∃ l, l = b2 - a2 := ⟨_, rfl⟩
    have w1 : IntKind.i64.wrap ((b2 : Int) - a2) = (l : Int) := by rw [IntWalk.i64_in _ (by omega)]; omega
    by_cases h12 : l ≤ 12
    · have h12I : (l : Int) ≤ 12 := by omega
      obtain ⟨r, T, ⟨rfl, t1, t2⟩, e1⟩ := (ins_sort hP.num hab2 (by omega) (by omega)).ex
      obtain ⟨p1, p2⟩ := Sort.insertionSort_holds (lt := ltN) swo_ltN d2 a2 b2 hab2 (by omega)
      obtain ⟨q1, q2⟩ := hP.fin _ p1 p2
      simp [s0, s1, s2, s3, s8, s9, w1, h12I, wk, e1, ex0]
      exact ⟨_, q1, q2, t1, hP.keep.trans t2⟩
    have h12I : ¬ (l : Int) ≤ 12 := by omega
    by_cases hlim : lim = 0
    · obtain ⟨r, T, ⟨rfl, t1, t2⟩, e1⟩ := (heap_sort hP.num (a := a2) (b := b2) (by omega) (by omega) (by omega)).ex
      obtain ⟨p1, p2⟩ := Sort.heapSort_holds (lt := ltN) swo_ltN d2 a2 b2 hab2 (by omega)
      obtain ⟨q1, q2⟩ := hP.fin _ p1 p2
      simp [s0, s1, s2, s3, s8, s9, w1, h12I, hlim, wk, e1, ex0]
      exact ⟨_, q1, q2, t1, hP.keep.trans t2⟩
    simp [-wpP_cond, s0, s1, s2, s3, s8, s9, w1]
    rw [wpP_cond]
    simp [-wpP_cond, s0, s1, s2, s3, s8, s9, h12I]
    rw [wpP_cond]
    simp [-wpP_cond, s0, s1, s2, s3, s8, s9, hlim]
    refine cut_of (pdM S v d a b a2 b2 l wb wp) ?_ ?_
    · cases wb with
      | true =>
        simp
        exact ⟨lim, d2, hP, by simp [s0], by simp [s1], by simp [s2], by simp [s3], by simp [s8], by simp [s9], by simp, by simp [hn]⟩
      | false =>
        obtain ⟨r, T, ⟨rfl, d3, t0, t1, t2⟩, e1⟩ := (brk_sort hP.num (a := a2) (b := b2) (by omega) (by omega) (by omega)).ex
        simp [s0, s1, s2, s3, s8, s9, wk, e1, ex0]
        exact ⟨IntKind.i64.wrap (lim - 1), d3, hP.perm (by omega) t0 t1 t2, by simp [s0], by simp [s1], by simp [s2], by simp, by simp [s8], by simp [s9], by simp, by simp [hn]⟩
    clear s0 s1 s2 s3 s8 s9 hn hP hsz2 hlim
    rintro F T ⟨lim, d2, hP, s0, s1, s2, s3, s8, s9, s10, hn⟩
    have hsz2 := hP.size
    obtain ⟨r, T1, ⟨p, hint, rfl, hp1, hp2, hT1⟩, e1⟩ := (piv_sort hP.num (a := a2) (b := b2) (by omega) (by omega) (by omega)).ex
    have hP1 : Pd S T1 v d d2 a b a2 b2 := ⟨hP.num.sub hT1, hP.keep.trans hT1.keep, hP.size, hP.below, hP.fin⟩
    simp [-wpP_cond, kcode_app, s0, s1, s2, s3, s8, s9, s10, wk, e1, ex0]
    refine cut_of (pdM2 S v d a b a2 b2 l wb wp) ?_ ?_
    · by_cases hh2 : hint = 2
      · have hh2I : (hint : Int) = 2 := by omega
        obtain ⟨r, T2, ⟨rfl, t1, t2⟩, e2⟩ := (rev_sort hP1.num (a := a2) (b := b2) (by omega) (by omega) (by omega)).ex
        have t0 := Sort.reverseRange_holds d2 a2 b2 hab2 (by omega)
        have w2 : IntKind.i64.wrap ((b2 : Int) - 1) = ((b2 - 1 : Nat) : Int) := by rw [i64_sub1 (by omega)]; omega
        have w3 : IntKind.i64.wrap ((p : Int) - a2) = ((p - a2 : Nat) : Int) := by rw [IntWalk.i64_in _ (by omega)]; omega
        have w4 : IntKind.i64.wrap (((b2 - 1 : Nat) : Int) - ((p - a2 : Nat) : Int)) = ((b2 - 1 - (p - a2) : Nat) : Int) := by rw [IntWalk.i64_in _ (by omega)]; omega
        simp [s0, s1, s2, s3, s8, s9, s10, wk, hh2, e2, ex0, w2, w3, w4]
        exact ⟨lim, b2 - 1 - (p - a2), 1, _, hP1.perm (by omega) t0 t1 t2, by simp [s0], by simp [s1], by simp [s2], by simp [s3], by simp [s8], by simp [s9], by simp [s10], by simp, by simp, by omega, by omega, by simp [hn]⟩
      · have hh2I : ¬ (hint : Int) = 2 := by omega
        simp [s0, s1, s2, s3, s8, s9, s10, hh2, hh2I]
        exact ⟨lim, p, hint, d2, hP1, by simp [s0], by simp [s1], by simp [s2], by simp [s3], by simp [s8], by simp [s9], by simp [s10], by simp, by simp, hp1, hp2, by simp [hn]⟩
    clear s0 s1 s2 s3 s8 s9 s10 hn hP hP1 hsz2 e1 hT1 T1 hp1 hp2 p hint
    rintro F T ⟨lim, p, hint, d2, hP, s0, s1, s2, s3, s8, s9, s10, s11, s12, hp1, hp2, hn⟩
    have hsz2 := hP.size
    obtain ⟨c, hc⟩ : ∃ c : Bool, c = (wb && (wp && decide ((hint : Int) = 1))) := ⟨_, rfl⟩
    simp only [kcode_app, wpP_seq]
    refine cut_of (fun F' S' => S' = T ∧ sl F' 0 = v ∧ sl F' 1 = .int .i64 a2 ∧ sl F' 2 = .int .i64 b2 ∧ sl F' 3 = .int .i64 lim ∧ sl F' 8 = .bool wb ∧ sl F' 9 = .bool wp ∧ sl F' 10 = .int .i64 l ∧ sl F' 11 = .int .i64 p ∧ sl F' 12 = .int .i64 hint ∧ sl F' 68 = .bool c ∧ F'.n = 134) ?_ ?_
    · cases wb with
      | false =>
        rw [Bool.false_and] at hc
        subst hc
        simp [s0, s1, s2, s3, s8, s9, s10, s11, s12]
        exact hn
      | true =>
        cases wp with
        | false =>
          rw [Bool.false_and, Bool.and_false] at hc
          subst hc
          simp [s0, s1, s2, s3, s8, s9, s10, s11, s12]
          exact hn
        | true =>
          by_cases h1 : (hint : Int) = 1
          · rw [decide_eq_true h1] at hc
            have h1' : hint = 1 := by omega
            subst hc
            simp [s0, s1, s2, s3, s8, s9, s10, s11, s12, h1']
            exact hn
          · rw [decide_eq_false h1] at hc
            have h1' : ¬ hint = 1 := by omega
            subst hc
            simp [s0, s1, s2, s3, s8, s9, s10, s11, s12, h1, h1']
            exact hn
    clear s0 s1 s2 s3 s8 s9 s10 s11 s12 hn
    rintro F V ⟨e0, s0, s1, s2, s3, s8, s9, s10, s11, s12, s68, hn⟩
    subst e0
    simp only [kcode_app, wpP_seq]
    refine cut_of (pdM2 S v d a b a2 b2 l wb wp) ?_ ?_
    · cases c with
      | false =>
        simp [s68]
        exact ⟨lim, p, hint, d2, hP, s0, s1, s2, s3, s8, s9, s10, s11, s12, hp1, hp2, hn⟩
      | true =>
        obtain ⟨r, T1, ⟨rfl, t1, t2⟩, e1⟩ := (par_sort hP.num (a := a2) (b := b2) (by omega) (by omega) (by omega)).ex
        obtain ⟨p1, p2⟩ := Sort.partialInsertionSort_holds (lt := ltN) swo_ltN d2 a2 b2 (by omega) (by omega) hP.below
        cases hr : (Sort.partialInsertionSort ltN d2 a2 b2).2 with
        | true =>
          rw [hr] at e1
          obtain ⟨q1, q2⟩ := hP.fin _ p1 (p2 hr)
          simp [s0, s1, s2, s3, s8, s9, s10, s11, s12, s68, wk, e1, ex0]
          exact ⟨_, q1, q2, t1, hP.keep.trans t2⟩
        | false =>
          rw [hr] at e1
          simp [s0, s1, s2, s3, s8, s9, s10, s11, s12, s68, wk, e1, ex0]
          exact ⟨lim, p, hint, _, hP.perm (by omega) p1 t1 t2, by simp [s0], by simp [s1], by simp [s2], by simp [s3], by simp [s8], by simp [s9], by simp [s10], by simp [s11], by simp [s12], hp1, hp2, by simp [hn]⟩
    clear s0 s1 s2 s3 s8 s9 s10 s11 s12 s68 hn hP hsz2 hp1 hp2 hc
    rintro F T ⟨lim, p, hint, d2, hP, s0, s1, s2, s3, s8, s9, s10, s11, s12, hp1, hp2, hn⟩
    have hsz2 := hP.size
    have u1 := hP.num.sl
    have u2 := hP.num.len
    have okv := hP.num.gw.1.ok
    have lp := hP.num.ld (i := p) (by omega)
    have qp : p < d2.size := by omega
    obtain ⟨c, hc⟩ : ∃ c : Bool, c = (decide (0 < a2) && !ltN (nth d2 (a2 - 1)) (nth d2 p)) := ⟨_, rfl⟩
    simp only [kcode_app, wpP_seq]
    refine cut_of (fun F' S' => S' = T ∧ sl F' 0 = v ∧ sl F' 1 = .int .i64 a2 ∧ sl F' 2 = .int .i64 b2 ∧ sl F' 3 = .int .i64 lim ∧ sl F' 8 = .bool wb ∧ sl F' 9 = .bool wp ∧ sl F' 10 = .int .i64 l ∧ sl F' 11 = .int .i64 p ∧ sl F' 12 = .int .i64 hint ∧ sl F' 87 = .bool c ∧ F'.n = 134) ?_ ?_
    · simp
      refine draws [.p, .p, .p, .p, .p, .p, .p, .r 0 0, .p, .p, .p, .r 0 0, .e [], .p, .p] (n := 134) (by kernel_rfl) (by simp [hn]) ?_
      cases a2 with
      | zero =>
        have hc' : c = false := hc
        subst hc'
        simp [s0, s1, s2, s3, s8, s9, s10, s11, s12, okW_undef]
        exact hn
      | succ m =>
        rw [Nat.add_sub_cancel] at hc
        have l0 := hP.num.ld (i := m) (by omega)
        have q0 : m < d2.size := by omega
        have g0 : (0 : Int) < (m : Int) + 1 := by omega
        have wm : IntKind.i64.wrap ((m : Int) + 1 - 1) = (m : Int) := by rw [show (m : Int) + 1 - 1 = m by omega]; exact IntWalk.i64_in _ (by omega)
        have wm' : IntKind.i64.wrap (m : Int) = (m : Int) := IntWalk.i64_in _ (by omega)
        have s1' := s1
        simp at s1
        cases hlt : ltN (nth d2 m) (nth d2 p) with
        | true =>
          rw [hlt] at hc
          simp at hc
          subst hc
          simp [s0, s1, s2, s3, s8, s9, s10, s11, s12, g0, wm, wm', u1, u2, wk, okv, l0, lp, q0, qp, less_sort, hlt, ex0]
          exact hn
        | false =>
          rw [hlt] at hc
          simp at hc
          subst hc
          simp [s0, s1, s2, s3, s8, s9, s10, s11, s12, g0, wm, wm', u1, u2, wk, okv, l0, lp, q0, qp, less_sort, hlt, ex0]
          exact hn
    clear s0 s1 s2 s3 s8 s9 s10 s11 s12 hn
    rintro F V ⟨e0, s0, s1, s2, s3, s8, s9, s10, s11, s12, s87, hn⟩
    subst e0
    cases c with
    | true =>
      simp only [Eq.comm (a := true), Bool.and_eq_true, decide_eq_true_eq, Bool.not_eq_true'] at hc
      obtain ⟨r, T1, ⟨rfl, t1, t2⟩, e1⟩ := (peq_sort hP.num (a := a2) (b := b2) (pivot := p) hp1 hp2 (by omega) (by omega)).ex
      obtain ⟨g1, g2, g3, g4, g5⟩ := Sort.round_eq swo_ltN (Sort.partitionEqual_holds ltN) (d3 := d2) (d4 := (Sort.partitionEqual ltN d2 a2 b2 p).2) (mid := (Sort.partitionEqual ltN d2 a2 b2 p).1) hc.1 hp1 hp2 (by omega) hP.below hc.2 rfl
      generalize (Sort.partitionEqual ltN d2 a2 b2 p).1 = mid at g1 g2 g4 g5 e1
      generalize (Sort.partitionEqual ltN d2 a2 b2 p).2 = d4 at g3 g4 g5 t1
      have hP2 : Pd S T1 v d d4 a b mid b2 := ⟨t1, hP.keep.trans t2, g3.trans hP.size, g4, fun R hR hs => by
        obtain ⟨q1, q2⟩ := g5 R hR hs
        exact hP.fin R q1 q2⟩
      simp [kcode_app, s0, s1, s2, s3, s8, s9, s10, s11, s12, s87, wk, e1, ex0]
      exact ⟨b2 - mid, by omega, mid, b2, lim, wb, wp, d4, hP2, by simp [s0], by simp, by simp [s2], by simp [s3], by simp [s8], by simp [s9], by simp [hn], by omega, g2, hb2, rfl⟩
    | false =>
      obtain ⟨r, T1, ⟨rfl, t1, t2⟩, e1⟩ := (prt_sort hP.num (a := a2) (b := b2) (pivot := p) hp1 hp2 (by omega) (by omega)).ex
      obtain ⟨g1, g2, g3, g4, g5, g6, g7⟩ := Sort.round_part swo_ltN (Sort.partition_holds ltN) (d3 := d2) (d4 := (Sort.partition ltN d2 a2 b2 p).2.2) (mid := (Sort.partition ltN d2 a2 b2 p).1) (ap := (Sort.partition ltN d2 a2 b2 p).2.1) hp1 hp2 (by omega) hP.below rfl
      generalize (Sort.partition ltN d2 a2 b2 p).1 = mid at g1 g2 g4 g5 g6 g7 e1
      generalize (Sort.partition ltN d2 a2 b2 p).2.1 = ap at e1
      generalize (Sort.partition ltN d2 a2 b2 p).2.2 = d4 at g3 g4 g5 g6 g7 t1
      obtain ⟨l8, hl8⟩ : ∃ l8, l8 = l / 8 := ⟨_, rfl⟩
      have w8 : Int.tdiv (l : Int) 8 = (l8 : Int) := by rw [hl8]; rfl
      have w8' : IntKind.i64.wrap (l8 : Int) = (l8 : Int) := IntWalk.i64_in _ (by omega)
      obtain ⟨x, hx⟩ : ∃ x, x = mid - a2 := ⟨_, rfl⟩
      obtain ⟨y, hy⟩ : ∃ y, y = b2 - mid := ⟨_, rfl⟩
      have wx : IntKind.i64.wrap ((mid : Int) - a2) = (x : Int) := by rw [IntWalk.i64_in _ (by omega)]; omega
      have wy : IntKind.i64.wrap ((b2 : Int) - mid) = (y : Int) := by rw [IntWalk.i64_in _ (by omega)]; omega
      have wm := i64_add (n := mid) (by omega)
      by_cases hxy : x < y
      · obtain ⟨r, T2, ⟨rfl, L, r1, r2, r3, r4⟩, e2⟩ := (ih T1 d4 a2 mid lim (by omega) (by omega) t1 g1 (by omega) g4).ex
        obtain ⟨h1, h2⟩ := g6 L r1 r2
        have hP2 : Pd S T2 v d L a b (mid + 1) b2 := ⟨r3, (hP.keep.trans t2).trans r4, r1.1.trans (g3.trans hP.size), h1, fun R hR hs => by
          obtain ⟨q1, q2⟩ := h2 R hR hs
          exact hP.fin R q1 q2⟩
        simp [kcode_app, s0, s1, s2, s3, s8, s9, s10, s11, s12, s87, wk, e1, e2, ex0, w8, w8', wx, wy, wm, hxy]
        exact ⟨b2 - (mid + 1), by omega, mid + 1, b2, lim, _, ap, L, hP2, by simp [s0], by simp, by simp [s2], by simp [s3], by simp; rfl, by simp, by simp [hn], by omega, g2, hb2, rfl⟩
      · obtain ⟨r, T2, ⟨rfl, L, r1, r2, r3, r4⟩, e2⟩ := (ih T1 d4 (mid + 1) b2 lim (by omega) (by omega) t1 g2 (by omega) g5).ex
        obtain ⟨h1, h2⟩ := g7 L r1 r2
        have hP2 : Pd S T2 v d L a b a2 mid := ⟨r3, (hP.keep.trans t2).trans r4, r1.1.trans (g3.trans hP.size), h1, fun R hR hs => by
          obtain ⟨q1, q2⟩ := h2 R hR hs
          exact hP.fin R q1 q2⟩
        simp at e2
        simp [kcode_app, s0, s1, s2, s3, s8, s9, s10, s11, s12, s87, wk, e1, e2, ex0, w8, w8', wx, wy, wm, hxy]
        exact ⟨mid - a2, by omega, a2, mid, lim, _, ap, L, hP2, by simp [s0], by simp [s1], by simp, by simp [s3], by simp; rfl, by simp, by simp [hn], ha2, g1, by omega, rfl⟩
end
/-- slices.Sort: the same numbers, ascending. -/
theorem sort_sort {S : AS} {v : AV} {d : Array Nat} (h : NumAt S v d) (hsz : d.size ≤ 1048576) : CallW C0 90 [v] S fun r T => r = .tuple [] ∧ ∃ d', Sort.PermIn 0 d.size d d' ∧ Sort.SortedIn ltN 0 d.size d' ∧ NumAt T v d' ∧ KeepV v S T := by
  have u1 := h.sl
  have u2 := h.len
  have wk := h.ok
  have hw : IntKind.u64.wrap (d.size : Int) = (d.size : Int) := by simp [IntKind.wrap, IntKind.bits, IntKind.signed]; omega
  obtain ⟨r, T, ⟨rfl, d', r1, r2, r3, r4⟩, e⟩ := (pdq_sort (d.size + 1) S d 0 d.size (lenN d.size : Nat) hsz (by omega) h (Nat.zero_le _) (Nat.le_refl _) (Or.inl rfl)).ex
  refine enterW (pu0 _) (pr0 _ rfl) fn90 rfl ok90 (by simp) fun F hn hs => ?_
  have s0 := hs 0
  clear hs
  simp only [List.getElem?_cons_zero, Option.getD_some] at s0
  simp at e
  simp [s0, u1, u2, wk, hw, len_sort (x := d.size) (by omega), ex0, e]
  exact ⟨d', r1, r2, r3, r4⟩
end Go.Proofs.YtgeghppdhjlbiaaGreatDoor.mod
