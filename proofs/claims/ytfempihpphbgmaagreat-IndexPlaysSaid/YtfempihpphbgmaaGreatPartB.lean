/-
  slices.partialInsertionSortOrdered at numbers.
-/
import Derived.Test.YtfempihpphbgmaaGreatPartA
noncomputable section
namespace Go.Proofs.YtfempihpphbgmaaGreat.idx
open Go Go.Am Go.Proofs.YtfempihpphbgmaaGreat.mod
set_option linter.unusedVariables false
set_option linter.unusedSimpArgs false
section
variable {S : AS} {v : AV} {d : Array Nat}
theorem u5 {d : Array Nat} {b i : Nat} (h1 : i + 1 < b) (h2 : aT (nth d (i + 1)) (nth d i) = false) : Sort.scanSorted aT d b (i + 1) = Sort.scanSorted aT d b (i + 2) := by
 conv => lhs; rw [Sort.scanSorted]
 rw [if_pos];rw [Bool.and_eq_true, decide_eq_true_eq];refine ⟨h1, ?_⟩;show (!aT (nth d (i + 1)) (nth d (i + 1 - 1))) = true;rw [Nat.add_sub_cancel, h2]; rfl
theorem pw {d : Array Nat} {b i : Nat} (h : i + 1 < b → aT (nth d (i + 1)) (nth d i) = true) : Sort.scanSorted aT d b (i + 1) = i + 1 := by
 rw [Sort.scanSorted, if_neg];rw [Bool.and_eq_true, decide_eq_true_eq]
 rintro ⟨h1, h2⟩
 have h3 : (!aT (nth d (i + 1)) (nth d (i + 1 - 1))) = true := h2;rw [Nat.add_sub_cancel, h h1] at h3
 cases h3
theorem u6 {d : Array Nat} {b : Nat} : ∀ (n i : Nat), b - i ≤ n → i ≤ Sort.scanSorted aT d b i ∧ (i ≤ b → Sort.scanSorted aT d b i ≤ b) := by
 intro n
 induction n with
 | zero =>
  intro i hn;rw [Sort.scanSorted]
  split
  ·rename_i hc
   simp only [Bool.and_eq_true, decide_eq_true_eq] at hc;omega
  ·exact ⟨Nat.le_refl _, fun h => h⟩
 | succ n ih =>
  intro i hn;rw [Sort.scanSorted]
  split
  ·rename_i hc
   simp only [Bool.and_eq_true, decide_eq_true_eq] at hc;obtain ⟨h1, h2⟩ := ih (i + 1) (by omega)
   exact ⟨by omega, fun _ => h2 (by omega)⟩
  ·exact ⟨Nat.le_refl _, fun h => h⟩
theorem pq {d : Array Nat} {j : Nat} : Sort.shiftDown aT (j + 1) d = if aT (nth d (j + 1)) (nth d j) = true then Sort.shiftDown aT j (Sort.swp d (j + 1) j) else d := by
 rw [Sort.shiftDown];show (if (!aT (nth d (j + 1)) (nth d j)) = true then d else Sort.shiftDown aT j (Sort.swp d (j + 1) j)) = _
 cases aT (nth d (j + 1)) (nth d j) <;> simp
theorem nj : ∀ (j : Nat) (d : Array Nat), (Sort.shiftDown aT j d).size = d.size
 | 0, d => rfl
 | j + 1, d => by
  rw [pq]
  split
  ·rw [nj j, bT]
  ·rfl
theorem tn {d : Array Nat} {b j : Nat} (h : j + 1 < b) : Sort.shiftUp aT b (j + 1) d = if aT (nth d (j + 1)) (nth d j) = true then Sort.shiftUp aT b (j + 2) (Sort.swp d (j + 1) j) else d := by
 conv => lhs; rw [Sort.shiftUp]
 rw [if_pos h];show (if (!aT (nth d (j + 1)) (nth d (j + 1 - 1))) = true then d else Sort.shiftUp aT b (j + 1 + 1) (Sort.swp d (j + 1) (j + 1 - 1))) = _
 rw [Nat.add_sub_cancel]
 cases aT (nth d (j + 1)) (nth d j) <;> simp
theorem ni {d : Array Nat} {b j : Nat} (h : ¬ j < b) : Sort.shiftUp aT b j d = d := by rw [Sort.shiftUp, if_neg h]
theorem zM {b : Nat} : ∀ (n j : Nat) (d : Array Nat), b - j ≤ n → (Sort.shiftUp aT b (j + 1) d).size = d.size := by
 intro n
 induction n with
 | zero => intro j d h; rw [ni (by omega)]
 | succ n ih =>
  intro j d h
  by_cases hj : j + 1 < b
  ·rw [tn hj]
   split
   ·rw [ih (j + 1) _ (by omega), bT]
   ·rfl
  ·rw [ni hj]
theorem nt100 : Tryz.f100.ntmps = 133 := by kernel_rfl
def parS (v : AV) (a b i st : Nat) (F' : Fr) : Prop := sl F' 0 = v ∧ sl F' 1 = .int .i64 a ∧ sl F' 2 = .int .i64 b ∧ sl F' 7 = .int .i64 i ∧ sl F' 8 = .int .i64 st ∧ F'.n = 133
def parH (S : AS) (v : AV) (d : Array Nat) (a b : Nat) (R : Array Nat × Bool) (k : Nat) (F' : Fr) (S' : AS) : Prop :=
 ∃ (i st : Nat) (d' : Array Nat), aQ S' v d' ∧ dc v S S' ∧ d'.size = d.size ∧ Sort.partialIns aT a b k i d' = R ∧ parS v a b i st F' ∧ a < i ∧ i ≤ b ∧ st + k = 5
def parM (S : AS) (v : AV) (d d' : Array Nat) (a b i st : Nat) (F' : Fr) (S' : AS) : Prop := aQ S' v d' ∧ dc v S S' ∧ parS v a b i st F'
def sdH (S : AS) (v : AV) (d : Array Nat) (a b i st : Nat) (R : Array Nat) (k : Nat) (F' : Fr) (S' : AS) : Prop :=
 ∃ d' : Array Nat, aQ S' v d' ∧ dc v S S' ∧ d'.size = d.size ∧ Sort.shiftDown aT k d' = R ∧ parS v a b i st F' ∧ sl F' 9 = .int .i64 k ∧ k < b
def suH (S : AS) (v : AV) (d : Array Nat) (a b i st : Nat) (R : Array Nat) (k : Nat) (F' : Fr) (S' : AS) : Prop :=
 ∃ (j : Nat) (d' : Array Nat), aQ S' v d' ∧ dc v S S' ∧ d'.size = d.size ∧ Sort.shiftUp aT b j d' = R ∧ parS v a b i st F' ∧ sl F' 10 = .int .i64 j ∧ 1 ≤ j ∧ j ≤ b ∧ k = b - j
def ssH (S1 : AS) (v : AV) (d : Array Nat) (a b st I : Nat) (k : Nat) (F' : Fr) (S' : AS) : Prop :=
 S' = S1 ∧ ∃ i, parS v a b i st F' ∧ Sort.scanSorted aT d b i = I ∧ a < i ∧ i ≤ b ∧ k = b - i
set_option maxRecDepth 20000 in
theorem par_sort (h : aQ S v d) {a b : Nat} (qz : a < b) (hb : b ≤ d.size) (fi : d.size ≤ 1048576) : ai C0 100 [v, .int .i64 a, .int .i64 b] S fun r T => r = .bool (Sort.partialInsertionSort aT d a b).2 ∧ aQ T v (Sort.partialInsertionSort aT d a b).1 ∧ dc v S T := by
 refine ka (dm _) (dn _ rfl) fn100 rfl ok100 (by simp) fun F hn s0 s1 s2 => ?_
 rw [nt100] at hn;have hw := dp (n := a) (by omega)
 simp [s0, s1, s2, hw];refine aB (parH S v d a b (Sort.partialInsertionSort aT d a b)) 5 ⟨a + 1, 0, d, h, eS.refl, rfl, rfl, ⟨by simp [s0], by simp [s1], by simp [s2], by simp, by simp, by simp [hn]⟩, Nat.lt_succ_self _, qz, rfl⟩ ?_
 clear s0 s1 s2 hn hw
 rintro k F S1 df ⟨i, st, d', h1, h2, h3, h4, ⟨s0, s1, s2, s7, s8, hn⟩, hai, hib, fQ⟩
 clear df;have u1 := h1.sl;have u2 := h1.len;have wk := h1.ok;have fB := h1.gw.1.ok
 cases k with
 | zero =>
  have h5 : ¬ (st : Int) < 5 := by omega
  have h4' : (d', false) = Sort.partialInsertionSort aT d a b := h4;rw [← h4'];simp [s0, s1, s2, s7, s8, h5];exact ⟨h1, h2⟩
 | succ k =>
  have h5 : (st : Int) < 5 := by omega
  obtain ⟨I, hI⟩ : ∃ I, I = Sort.scanSorted aT d' b i := ⟨_, rfl⟩;have bI := u6 (d := d') (b := b) _ i (Nat.le_refl _);rw [← hI] at bI;have bI1 := bI.1;have bI2 := bI.2 hib;clear bI;simp [-bC, s0, s1, s2, s7, s8, h5];rw [bC];simp only [lW];refine iB (fun F' S' => S' = S1 ∧ parS v a b I st F') ?_ ?_
  ·rw [bC, gY]
   refine aB (ssH S1 v d' a b st I) (b - i) ⟨rfl, i, ⟨by simp [s0], by simp [s1], by simp [s2], by simp [s7], by simp [s8], by simp [hn]⟩, hI.symm, hai, hib, rfl⟩ ?_
   clear s0 s1 s2 s7 s8 hn
   rintro k2 F2 S2 fg ⟨e0, i2, ⟨s0, s1, s2, s7, s8, hn⟩, hI2, hai2, hib2, xy⟩
   subst e0;clear fg;obtain ⟨m, rfl⟩ : ∃ m, i2 = m + 1 := ⟨i2 - 1, by omega⟩
   have hwm : IntKind.i64.wrap ((m : Int) + 1 - 1) = (m : Int) := by rw [show (m : Int) + 1 - 1 = m by omega]; exact IntWalk.i64_in _ (by omega)
   have hwm' : IntKind.i64.wrap (m : Int) = (m : Int) := IntWalk.i64_in _ (by omega)
   have hwm1 : IntKind.i64.wrap ((m : Int) + 1 + 1) = ((m + 2 : Nat) : Int) := by rw [IntWalk.i64_in _ (by omega)]; omega
   simp at s7;simp [s0, s1, s2, s7, s8];refine aA [.p, .p, .p, .p, .p, .p, .p, .r 0 0, .p, .p, .p, .p, .r 0 0, .e [], .p, .p] (n := 133) (by kernel_rfl) (by simp [hn]) ?_
   by_cases hc : m + 1 < b
   ·have uF : (m : Int) + 1 < b := by omega
    have l1 := h1.ld (i := m + 1) (by omega)
    have l0 := h1.ld (i := m) (by omega)
    have q1 : (m : Int) + 1 < d'.size := by omega
    have q0 : (0 : Int) ≤ (m : Int) + 1 := by omega
    have qt : ((m : Int) + 1).toNat = m + 1 := by omega
    have qm : m < d'.size := by omega
    cases hl : aT (nth d' (m + 1)) (nth d' m) with
    | false =>
     rw [u5 hc hl] at hI2;simp [s0, s1, s2, s7, s8, uF, u1, u2, wk, fB, l1, l0, q1, q0, qt, qm, hwm, hwm', aG, hl, aR];exact ⟨b - (m + 2), by omega, rfl, m + 2, ⟨by simp [s0], by simp [s1], by simp [s2], by simp [hwm1], by simp [s8], by simp [hn]⟩, hI2, by omega, by omega, rfl⟩
    | true =>
     rw [pw (fun _ => hl)] at hI2
     simp [s0, s1, s2, s7, s8, uF, u1, u2, wk, fB, l1, l0, q1, q0, qt, qm, hwm, hwm', aG, hl, aR];exact ⟨by simp [s0], by simp [s1], by simp [s2], by simp [s7, ← hI2], by simp [s8], by simp [hn]⟩
   ·rw [pw (fun hh => absurd hh hc)] at hI2
    have uF : ¬ (m : Int) + 1 < b := by omega
    simp [s0, s1, s2, s7, s8, uF, ej];exact ⟨by simp [s0], by simp [s1], by simp [s2], by simp [s7, ← hI2], by simp [s8], by simp [hn]⟩
  clear s0 s1 s2 s7 s8 hn
  rintro F T ⟨e0, s0, s1, s2, s7, s8, hn⟩
  subst e0;rw [Sort.partialIns_succ, ← hI] at h4
  by_cases hIb : I = b
  ·rw [if_pos hIb] at h4
   rw [← h4];rw [hIb] at s7;simp [aP, s0, s1, s2, s7, s8];exact ⟨h1, h2⟩
  rw [if_neg hIb] at h4;have hIbI : ¬ (I : Int) = b := by omega
  have hwba : IntKind.i64.wrap ((b : Int) - a) = ((b - a : Nat) : Int) := by rw [IntWalk.i64_in _ (by omega)]; omega
  by_cases h50 : b - a < 50
  ·rw [if_pos h50] at h4
   rw [← h4];have ui : ((b - a : Nat) : Int) < 50 := by omega
   simp [aP, s0, s1, s2, s7, s8, hIb, hIbI, hwba, h50, ui];exact ⟨h1, h2⟩
  rw [if_neg h50] at h4;have ui : ¬ ((b - a : Nat) : Int) < 50 := by omega
  obtain ⟨m, rfl⟩ : ∃ m, I = m + 1 := ⟨I - 1, by omega⟩
  rw [Nat.add_sub_cancel] at h4;have hwm : IntKind.i64.wrap ((m : Int) + 1 - 1) = (m : Int) := by rw [show (m : Int) + 1 - 1 = m by omega]; exact IntWalk.i64_in _ (by omega)
  have hwm' : IntKind.i64.wrap (m : Int) = (m : Int) := IntWalk.i64_in _ (by omega)
  have hwma : IntKind.i64.wrap ((m : Int) + 1 - a) = ((m + 1 - a : Nat) : Int) := by rw [IntWalk.i64_in _ (by omega)]; omega
  have hwbm : IntKind.i64.wrap ((b : Int) - ((m : Int) + 1)) = ((b - (m + 1) : Nat) : Int) := by rw [IntWalk.i64_in _ (by omega)]; omega
  have hwm2 : IntKind.i64.wrap ((m : Int) + 1 + 1) = ((m + 2 : Nat) : Int) := by rw [IntWalk.i64_in _ (by omega)]; omega
  have l1 := h1.ld (i := m + 1) (by omega)
  have l0 := h1.ld (i := m) (by omega)
  have q1 : (m : Int) + 1 < d'.size := by omega
  have q0 : (0 : Int) ≤ (m : Int) + 1 := by omega
  have qt : ((m : Int) + 1).toNat = m + 1 := by omega
  have qm : m < d'.size := by omega
  have CG : ¬ m + 1 = b := hIb;have hmbI : ¬ (m : Int) + 1 = b := by omega
  obtain ⟨T1, T2, e1, e2, t1, t2, t3⟩ := h1.swap (i := m + 1) (j := m) (by omega) (by omega)
  obtain ⟨d1, hd1⟩ : ∃ d1, d1 = Sort.swp d' (m + 1) m := ⟨_, rfl⟩;rw [← hd1] at t1 h4;have z1 : d1.size = d.size := by rw [hd1, bT]; exact h3
  obtain ⟨d2, hd2⟩ : ∃ d2, d2 = (if m + 1 - a ≥ 2 then Sort.shiftDown aT m d1 else d1) := ⟨_, rfl⟩
  obtain ⟨d3, hd3⟩ : ∃ d3, d3 = (if b - (m + 1) ≥ 2 then Sort.shiftUp aT b (m + 2) d2 else d2) := ⟨_, rfl⟩
  have z2 : d2.size = d.size := by
   rw [hd2]
   split
   ·rw [nj]; exact z1
   ·exact z1
  have z3 : d3.size = d.size := by
   rw [hd3]
   split
   ·rw [zM _ (m + 1) _ (Nat.le_refl _)]; exact z2
   ·exact z2
  replace h4 : Sort.partialIns aT a b k (m + 1) d3 = Sort.partialInsertionSort aT d a b := by
   rw [← h4, hd3, hd2]
   rfl
  simp at s7;simp [-dO, aP, s0, s1, s2, s7, s8];rw [dO];simp [-dO, aP, s0, s1, s2, s7, s8, hmbI, hwba, h50, ui];rw [dO];simp [-dO, aP, s0, s1, s2, s7, s8, h50, ui];refine aA [.p, .p, .p, .p, .p, .p, .p, .p, .p, .r 0 0, .p, .p, .p, .r 0 0, .p, .e [], .p, .e []] (n := 133) (by kernel_rfl) (by simp [hn]) ?_
  simp [-dO, aP, s0, s1, s2, s7, s8, u1, u2, wk, fB, l1, l0, q1, q0, qt, qm, hwm, hwm', e1, e2, hwma];refine iB (parM S v d d2 a b (m + 1) st) ?_ ?_
  ·by_cases hg : m + 1 - a ≥ 2
   ·rw [if_pos hg] at hd2
    have hgI : (2 : Int) ≤ ((m + 1 - a : Nat) : Int) := by omega
    simp [aP, s0, s1, s2, s7, s8, hg, hgI, hwm, hwm'];refine aB (sdH S v d a b (m + 1) st d2) m ⟨d1, t1, h2.trans t2, z1, hd2.symm, ⟨by simp [s0], by simp [s1], by simp [s2], by simp [s7], by simp [s8], by simp [hn]⟩, by simp, by omega⟩ ?_
    clear s0 s1 s2 s7 s8 hn
    rintro k2 F2 S2 fg ⟨dd, g1, g2, g3, g4, ⟨s0, s1, s2, s7, s8, hn⟩, s9, xy⟩
    clear fg;have w1 := g1.sl;have w2 := g1.len;have wk := g1.ok;have fB := g1.gw.1.ok;simp at s7
    cases k2 with
    | zero =>
     have g4' : dd = d2 := g4;simp [s0, s1, s2, s7, s8, s9];exact ⟨by rw [← g4']; exact g1, g2, ⟨by simp [s0], by simp [s1], by simp [s2], by simp [s7], by simp [s8], by simp [hn]⟩⟩
    | succ j =>
     have p1 := g1.ld (i := j + 1) (by omega)
     have p0 := g1.ld (i := j) (by omega)
     have c1 : (j : Int) + 1 < dd.size := by omega
     have c0 : (0 : Int) ≤ (j : Int) + 1 := by omega
     have ct : ((j : Int) + 1).toNat = j + 1 := by omega
     have cm : j < dd.size := by omega
     have c2 : (1 : Int) ≤ (j : Int) + 1 := by omega
     have nc : IntKind.i64.wrap ((j : Int) + 1 - 1) = (j : Int) := by rw [show (j : Int) + 1 - 1 = j by omega]; exact IntWalk.i64_in _ (by omega)
     have lF : IntKind.i64.wrap (j : Int) = (j : Int) := IntWalk.i64_in _ (by omega)
     rw [pq] at g4;simp at s9;simp [s0, s1, s2, s7, s8, s9, c2];refine aA [.p, .p, .p, .r 0 0, .p, .p, .p, .p, .r 0 0, .e [], .p] (n := 133) (by kernel_rfl) (by simp [hn]) ?_
     cases hl : aT (nth dd (j + 1)) (nth dd j) with
     | true =>
      rw [hl, if_pos rfl] at g4;obtain ⟨V1, V2, f1, f2, r1, r2, r3⟩ := g1.swap (i := j + 1) (j := j) (by omega) (by omega)
      simp [s0, s1, s2, s7, s8, s9, w1, w2, wk, fB, p1, p0, c1, c0, ct, cm, nc, lF, aG, hl, aR];refine aA [.p, .p, .p, .p, .p, .p, .p, .p, .p, .r 0 0, .p, .p, .p, .r 0 0, .p, .e [], .p, .e []] (n := 133) (by kernel_rfl) (by simp [hn]) ?_
      simp [s0, s1, s2, s7, s8, s9, w1, w2, wk, fB, p1, p0, c1, c0, ct, cm, nc, lF, f1, f2];exact ⟨j, by omega, _, r1, g2.trans r2, by rw [bT]; exact g3, g4, ⟨by simp [s0], by simp [s1], by simp [s2], by simp [s7], by simp [s8], by simp [hn]⟩, by simp, by omega⟩
     | false =>
      rw [hl, if_neg (by simp)] at g4
      simp [s0, s1, s2, s7, s8, s9, w1, w2, wk, fB, p1, p0, c1, c0, ct, cm, nc, lF, aG, hl, aR];exact ⟨by rw [← g4]; exact g1, g2, ⟨by simp [s0], by simp [s1], by simp [s2], by simp [s7], by simp [s8], by simp [hn]⟩⟩
   ·rw [if_neg hg] at hd2
    have hgI : ¬ (2 : Int) ≤ ((m + 1 - a : Nat) : Int) := by omega
    simp [aP, s0, s1, s2, s7, s8, hg, hgI];exact ⟨by rw [hd2]; exact t1, h2.trans t2, ⟨by simp [s0], by simp [s1], by simp [s2], by simp [s7], by simp [s8], by simp [hn]⟩⟩
  clear s0 s1 s2 s7 s8 hn t1 t2 t3 e1 e2 u1 u2 wk fB l1 l0 h1 h2 T1 T2 hd1 hd2
  rintro F T ⟨t1, h2, s0, s1, s2, s7, s8, hn⟩
  simp at s7;simp [-dO, aP, s0, s1, s2, s7, s8, hwbm];refine cut_end (parM S v d d3 a b (m + 1) st) ?_ ?_
  ·by_cases hg : b - (m + 1) ≥ 2
   ·rw [if_pos hg] at hd3
    have hgI : (2 : Int) ≤ ((b - (m + 1) : Nat) : Int) := by omega
    simp [aP, s0, s1, s2, s7, s8, hg, hgI, hwm2];refine aB (suH S v d a b (m + 1) st d3) (b - (m + 2)) ⟨m + 2, d2, t1, h2, z2, hd3.symm, ⟨by simp [s0], by simp [s1], by simp [s2], by simp [s7], by simp [s8], by simp [hn]⟩, by simp, by omega, by omega, rfl⟩ ?_
    clear s0 s1 s2 s7 s8 hn
    rintro k2 F2 S2 fg ⟨i2, dd, g1, g2, g3, g4, ⟨s0, s1, s2, s7, s8, hn⟩, l9, hi1, hi2, xy⟩
    clear fg;have w1 := g1.sl;have w2 := g1.len;have wk := g1.ok;have fB := g1.gw.1.ok;simp at s7;obtain ⟨j, rfl⟩ : ∃ j, i2 = j + 1 := ⟨i2 - 1, by omega⟩
    simp at l9
    by_cases hjb : j + 1 < b
    ·have p1 := g1.ld (i := j + 1) (by omega)
     have p0 := g1.ld (i := j) (by omega)
     have c1 : (j : Int) + 1 < dd.size := by omega
     have c0 : (0 : Int) ≤ (j : Int) + 1 := by omega
     have ct : ((j : Int) + 1).toNat = j + 1 := by omega
     have cm : j < dd.size := by omega
     have c2 : (j : Int) + 1 < b := by omega
     have nc : IntKind.i64.wrap ((j : Int) + 1 - 1) = (j : Int) := by rw [show (j : Int) + 1 - 1 = j by omega]; exact IntWalk.i64_in _ (by omega)
     have lF : IntKind.i64.wrap (j : Int) = (j : Int) := IntWalk.i64_in _ (by omega)
     have hwj2 : IntKind.i64.wrap ((j : Int) + 1 + 1) = ((j + 1 + 1 : Nat) : Int) := by rw [IntWalk.i64_in _ (by omega)]; omega
     rw [tn hjb] at g4;simp [s0, s1, s2, s7, s8, l9, c2];refine aA [.p, .p, .p, .r 0 0, .p, .p, .p, .p, .r 0 0, .e [], .p] (n := 133) (by kernel_rfl) (by simp [hn]) ?_
     cases hl : aT (nth dd (j + 1)) (nth dd j) with
     | true =>
      rw [hl, if_pos rfl] at g4;obtain ⟨V1, V2, f1, f2, r1, r2, r3⟩ := g1.swap (i := j + 1) (j := j) (by omega) (by omega)
      simp [s0, s1, s2, s7, s8, l9, w1, w2, wk, fB, p1, p0, c1, c0, ct, cm, nc, lF, aG, hl, aR];refine aA [.p, .p, .p, .p, .p, .p, .p, .p, .p, .r 0 0, .p, .p, .p, .r 0 0, .p, .e [], .p, .e []] (n := 133) (by kernel_rfl) (by simp [hn]) ?_
      simp [s0, s1, s2, s7, s8, l9, w1, w2, wk, fB, p1, p0, c1, c0, ct, cm, nc, lF, f1, f2];exact ⟨b - (j + 1 + 1), by omega, j + 1 + 1, _, r1, g2.trans r2, by rw [bT]; exact g3, g4, ⟨by simp [s0], by simp [s1], by simp [s2], by simp [s7], by simp [s8], by simp [hn]⟩, by simp [hwj2], by omega, by omega, rfl⟩
     | false =>
      rw [hl, if_neg (by simp)] at g4
      simp [s0, s1, s2, s7, s8, l9, w1, w2, wk, fB, p1, p0, c1, c0, ct, cm, nc, lF, aG, hl, aR];exact ⟨by rw [← g4]; exact g1, g2, ⟨by simp [s0], by simp [s1], by simp [s2], by simp [s7], by simp [s8], by simp [hn]⟩⟩
    ·rw [ni hjb] at g4
     have c2 : ¬ (j : Int) + 1 < b := by omega
     simp [s0, s1, s2, s7, s8, l9, c2];exact ⟨by rw [← g4]; exact g1, g2, ⟨by simp [s0], by simp [s1], by simp [s2], by simp [s7], by simp [s8], by simp [hn]⟩⟩
   ·rw [if_neg hg] at hd3
    have hgI : ¬ (2 : Int) ≤ ((b - (m + 1) : Nat) : Int) := by omega
    simp [aP, s0, s1, s2, s7, s8, hg, hgI];exact ⟨by rw [hd3]; exact t1, h2, ⟨by simp [s0], by simp [s1], by simp [s2], by simp [s7], by simp [s8], by simp [hn]⟩⟩
  clear s0 s1 s2 s7 s8 hn t1 h2 hd3
  rintro F T ⟨t1, h2, s0, s1, s2, s7, s8, hn⟩
  simp at s7;have hws := dp (n := st) (by omega)
  simp [aP, s0, s1, s2, s7, s8];exact ⟨k, by omega, m + 1, st + 1, d3, t1, h2, z3, h4, ⟨by simp [s0], by simp [s1], by simp [s2], by simp [s7], by simp [hws], by simp [hn]⟩, by omega, by omega, by omega⟩
end
structure x6 (S : AS) (v : AV) (d : Array Nat) (B : Nat) : Prop where
 num : aQ S v d
 box : ∃ m : Int, S.h.get B = some (.row [.int .i64 m] 0 0 false 3)
 lt : B < S.next
 ne : cJ v ≠ B + 1
section
variable {S : AS} {v : AV} {d : Array Nat} {B : Nat}
theorem x6.put (h : x6 S v d B) (m : Int) : x6 ⟨S.h.set B (.row [.int .i64 m] 0 0 false 3), S.next⟩ v d B :=
 ⟨h.num.bR (fun id e => ae _ _ (fun e2 => h.ne (by rw [e, e2]))) (Nat.le_refl _), ⟨m, aa _ _ _⟩, h.lt, h.ne⟩
theorem nt133 : Tryz.f133.ntmps = 28 := by kernel_rfl
set_option maxRecDepth 20000 in
theorem rX (h : x6 S v d B) {a b : Nat} (ha : a < d.size) (hb : b < d.size) : ai C0 133 [v, .int .i64 a, .int .i64 b, .ptr B 0 0 1] S fun r T => ∃ x y : Nat, r = .tuple [.int .i64 x, .int .i64 y] ∧ ((x = a ∧ y = b) ∨ (x = b ∧ y = a)) ∧ x6 T v d B ∧ eS (fun id => id = B) S T := by
 refine wa (dm _) (dn _ rfl) fn133 rfl ok133 (by simp) fun F hn s0 s1 s2 s3 => ?_
 rw [nt133] at hn;have u1 := h.num.sl;have u2 := h.num.len;have wk := h.num.ok;have fB := h.num.gw.1.ok;have la := h.num.ld ha;have lb := h.num.ld hb;obtain ⟨m, hm⟩ := h.box;simp [s0, s1, s2, s3];refine aA [.p, .p, .p, .r 0 0, .p, .p, .p, .r 0 0, .e []] (n := 28) (by kernel_rfl) (by simp [hn]) ?_
 cases hl : aT (nth d b) (nth d a) with
 | true =>
  simp [s0, s1, s2, s3, u1, u2, wk, fB, la, lb, ha, hb, aG, hl, aR, hm];exact ⟨b, a, ⟨rfl, rfl⟩, .inr ⟨rfl, rfl⟩, h.put _, eS.refl.set (.inr rfl) (Nat.le_refl _)⟩
 | false =>
  simp [s0, s1, s2, s3, u1, u2, wk, fB, la, lb, ha, hb, aG, hl, aR, hm];exact ⟨a, b, ⟨rfl, rfl⟩, .inl ⟨rfl, rfl⟩, h, eS.refl⟩
theorem vC (h : x6 S v d B) {a b c : Nat} (ha : a < d.size) (hb : b < d.size) (hc : c < d.size) : ai C0 131 [v, .int .i64 a, .int .i64 b, .int .i64 c, .ptr B 0 0 1] S fun r T => ∃ x : Nat, r = .int .i64 x ∧ (x = a ∨ x = b ∨ x = c) ∧ x6 T v d B ∧ eS (fun id => id = B) S T := by
 obtain ⟨r, T1, ⟨x1, y1, rfl, c1, h1, k1⟩, e1⟩ := (rX h ha hb).ex;have hx1 : x1 < d.size := by rcases c1 with ⟨rfl, rfl⟩ | ⟨rfl, rfl⟩ <;> omega
 have hy1 : y1 < d.size := by rcases c1 with ⟨rfl, rfl⟩ | ⟨rfl, rfl⟩ <;> omega
 obtain ⟨r, T2, ⟨x2, y2, rfl, c2, h2, k2⟩, e2⟩ := (rX h1 hy1 hc).ex;have xu : x2 < d.size := by rcases c2 with ⟨rfl, rfl⟩ | ⟨rfl, rfl⟩ <;> omega
 obtain ⟨r, T3, ⟨x3, y3, rfl, c3, h3, k3⟩, e3⟩ := (rX h2 hx1 xu).ex;have wk := h.num.ok;refine enter5 (dm _) (dn _ rfl) fn131 rfl ok131 (by simp) fun F hn s0 s1 s2 s3 s4 => ?_
 simp [s0, s1, s2, s3, s4, e1, e2, e3, aR, wk];refine ⟨y3, rfl, ?_, h3, (k1.trans k2).trans k3⟩;rcases c1 with ⟨rfl, rfl⟩ | ⟨rfl, rfl⟩ <;> rcases c2 with ⟨rfl, rfl⟩ | ⟨rfl, rfl⟩ <;> rcases c3 with ⟨rfl, rfl⟩ | ⟨rfl, rfl⟩ <;> simp
theorem sf (h : x6 S v d B) {a : Nat} (h1 : 1 ≤ a) (ha : a + 1 < d.size) (fi : d.size ≤ 1048576) : ai C0 130 [v, .int .i64 a, .ptr B 0 0 1] S fun r T => ∃ x : Nat, r = .int .i64 x ∧ (a ≤ x + 1 ∧ x ≤ a + 1) ∧ x6 T v d B ∧ eS (fun id => id = B) S T := by
 obtain ⟨m, rfl⟩ : ∃ m, a = m + 1 := ⟨a - 1, by omega⟩
 obtain ⟨r, T1, ⟨x1, rfl, c1, DU, k1⟩, e1⟩ := (vC h (a := m) (b := m + 1) (c := m + 2) (by omega) (by omega) (by omega)).ex
 have wk := h.num.ok;have hw1 : IntKind.i64.wrap ((m : Int) + 1 - 1) = (m : Int) := by rw [show (m : Int) + 1 - 1 = m by omega]; exact IntWalk.i64_in _ (by omega)
 have hw1' : IntKind.i64.wrap (m : Int) = (m : Int) := IntWalk.i64_in _ (by omega)
 have Ar : IntKind.i64.wrap ((m : Int) + 1 + 1) = (m : Int) + 2 := by rw [IntWalk.i64_in _ (by omega)]; omega
 refine ka (dm _) (dn _ rfl) fn130 rfl ok130 (by simp) fun F hn s0 s1 s2 => ?_
 simp at s1 e1;simp [s0, s1, s2, hw1, hw1', Ar, e1, aR, wk];exact ⟨x1, rfl, by omega, DU, k1⟩
set_option maxRecDepth 20000 in
theorem piv_sort (h : aQ S v d) {a b : Nat} (qz : a + 8 < b) (hb : b ≤ d.size) (fi : d.size ≤ 1048576) : ai C0 98 [v, .int .i64 a, .int .i64 b] S fun r T => ∃ p hint : Nat, r = .tuple [.int .i64 p, .int .i64 hint] ∧ a ≤ p ∧ p < b ∧ Sub S T := by
 have wk := h.ok;have hold := h.gw.1.old;obtain ⟨l, hl⟩ : ∃ l, l = b - a := ⟨_, rfl⟩;obtain ⟨q, hq⟩ : ∃ q, q = l / 4 := ⟨_, rfl⟩;have hq4 : q * 4 ≤ l := by omega
 have hq12 : 50 ≤ l → 12 ≤ q := by omega
 obtain ⟨i, hi⟩ : ∃ i, i = a + q := ⟨_, rfl⟩;obtain ⟨j, hj⟩ : ∃ j, j = a + q * 2 := ⟨_, rfl⟩;obtain ⟨k, hk⟩ : ∃ k, k = a + q * 3 := ⟨_, rfl⟩;have w2 : Int.tdiv (l : Int) 4 = (q : Int) := by rw [hq]; rfl
 clear hq;have hq2 : 2 ≤ q := by
  rcases Nat.lt_or_ge q 2 with h | h
  ·exfalso
   have h1 : Int.tdiv (l : Int) 4 = ((l / 4 : Nat) : Int) := rfl;omega
  ·exact h
 have bk : k + q ≤ b := by omega
 have bkd : k + 1 < d.size := by omega
 have bij : a + 2 ≤ i ∧ i < j ∧ j < k := by omega
 have bi1 : i < d.size := by omega
 have bj1 : j < d.size := by omega
 have bk1 : k < d.size := by omega
 have w1 : IntKind.i64.wrap ((b : Int) - a) = (l : Int) := by rw [IntWalk.i64_in _ (by omega)]; omega
 have wU : IntKind.i64.wrap (q : Int) = (q : Int) := IntWalk.i64_in _ (by omega)
 have w3 : IntKind.i64.wrap ((q : Int) * 2) = ((q * 2 : Nat) : Int) := by rw [IntWalk.i64_in _ (by omega)]; omega
 have w4 : IntKind.i64.wrap ((q : Int) * 3) = ((q * 3 : Nat) : Int) := by rw [IntWalk.i64_in _ (by omega)]; omega
 have w5 : IntKind.i64.wrap ((a : Int) + q) = (i : Int) := by rw [IntWalk.i64_in _ (by omega)]; omega
 have w6 : IntKind.i64.wrap ((a : Int) + (q : Int) * 2) = (j : Int) := by rw [IntWalk.i64_in _ (by omega)]; omega
 have w7 : IntKind.i64.wrap ((a : Int) + (q : Int) * 3) = (k : Int) := by rw [IntWalk.i64_in _ (by omega)]; omega
 have hA : Sub S ⟨S.h.set S.next (.row [.int .i64 0] 0 0 false 3), S.next + 1⟩ := cS;have hP : x6 ⟨S.h.set S.next (.row [.int .i64 0] 0 0 false 3), S.next + 1⟩ v d S.next := ⟨h.sub hA, ⟨0, aa _ _ _⟩, Nat.lt_succ_self _, by omega⟩
 have h8 : (8 : Int) ≤ l := by omega
 refine ka (dm _) (dn _ rfl) fn98 rfl ok98 (by simp) fun F hn s0 s1 s2 => ?_
 have fin : ∀ T : AS, eS (fun id => id = S.next) ⟨S.h.set S.next (.row [.int .i64 0] 0 0 false 3), S.next + 1⟩ T → Sub S T := fun T hk => ⟨fun id bY => (hk.h id (Nat.lt_succ_of_lt bY) (fun e => by omega)).trans (hA.h id bY), Nat.le_trans (Nat.le_succ _) hk.next⟩
 by_cases h50 : 50 ≤ l
 ·have ui : (50 : Int) ≤ l := by omega
  obtain ⟨r, T1, ⟨i', rfl, c1, p1, k1⟩, e1⟩ := (sf hP (a := i) (by clear w1 w2 wU w3 w4 w5 w6 w7; omega) (by clear w1 w2 wU w3 w4 w5 w6 w7; omega) fi).ex
  obtain ⟨r, T2, ⟨j', rfl, c2, p2, k2⟩, e2⟩ := (sf p1 (a := j) (by clear w1 w2 wU w3 w4 w5 w6 w7; omega) (by clear w1 w2 wU w3 w4 w5 w6 w7; omega) fi).ex
  obtain ⟨r, T3, ⟨k', rfl, c3, p3, k3⟩, e3⟩ := (sf p2 (a := k) (by clear w1 w2 wU w3 w4 w5 w6 w7; omega) (by clear w1 w2 wU w3 w4 w5 w6 w7; omega) fi).ex
  obtain ⟨r, T4, ⟨x, rfl, c4, p4, k4⟩, e4⟩ := (vC p3 (a := i') (b := j') (c := k') (by clear w1 w2 wU w3 w4 w5 w6 w7; omega) (by clear w1 w2 wU w3 w4 w5 w6 w7; omega) (by clear w1 w2 wU w3 w4 w5 w6 w7; omega)).ex
  have bx : a ≤ x ∧ x < b := by have := hq12 h50; clear w1 w2 wU w3 w4 w5 w6 w7; omega
  obtain ⟨m, hm⟩ := p4.box;have hS := fin _ (((k1.trans k2).trans k3).trans k4)
  by_cases CH : m = 0
  ·subst CH
   simp [s0, s1, s2, w1, w2, wU, w3, w4, w5, w6, w7, h8, ui, e1, e2, e3, e4, aR, wk, hm];exact ⟨x, ⟨rfl, 1, rfl⟩, bx.1, bx.2, hS⟩
  by_cases hm1 : m = 12
  ·subst hm1
   simp [s0, s1, s2, w1, w2, wU, w3, w4, w5, w6, w7, h8, ui, e1, e2, e3, e4, aR, wk, hm];exact ⟨x, ⟨rfl, 2, rfl⟩, bx.1, bx.2, hS⟩
  ·simp [s0, s1, s2, w1, w2, wU, w3, w4, w5, w6, w7, h8, ui, e1, e2, e3, e4, aR, wk, hm, CH, hm1]
   exact ⟨x, ⟨rfl, 0, rfl⟩, bx.1, bx.2, hS⟩
 ·have ui : ¬ (50 : Int) ≤ l := by omega
  obtain ⟨r, T4, ⟨x, rfl, c4, p4, k4⟩, e4⟩ := (vC hP (a := i) (b := j) (c := k) bi1 bj1 bk1).ex;have bx : a ≤ x ∧ x < b := by clear w1 w2 wU w3 w4 w5 w6 w7; omega
  obtain ⟨m, hm⟩ := p4.box;have hS := fin _ k4
  by_cases CH : m = 0
  ·subst CH
   simp [s0, s1, s2, w1, w2, wU, w3, w4, w5, w6, w7, h8, ui, e4, aR, wk, hm];exact ⟨x, ⟨rfl, 1, rfl⟩, bx.1, bx.2, hS⟩
  by_cases hm1 : m = 12
  ·subst hm1
   simp [s0, s1, s2, w1, w2, wU, w3, w4, w5, w6, w7, h8, ui, e4, aR, wk, hm];exact ⟨x, ⟨rfl, 2, rfl⟩, bx.1, bx.2, hS⟩
  ·simp [s0, s1, s2, w1, w2, wU, w3, w4, w5, w6, w7, h8, ui, e4, aR, wk, hm, CH, hm1]
   exact ⟨x, ⟨rfl, 0, rfl⟩, bx.1, bx.2, hS⟩
end
def ua (x : Nat) : Nat := if 65536 ≤ x then 16 + Sort.bitsLen (x / 65536) else if 256 ≤ x then 8 + Sort.bitsLen (x / 256) else Sort.bitsLen x
theorem lenN_le {x : Nat} (h : 0 < x) : 2 ^ ua x ≤ 2 * x := by
 unfold ua
 split
 ·have h1 := Sort.two_pow_bitsLen_le (n := x / 65536) (by omega)
  rw [Nat.pow_add];have : 2 ^ 16 = 65536 := rfl;rw [this];have h2 := Nat.mul_le_mul_left 65536 h1;omega
 split
 ·have h1 := Sort.two_pow_bitsLen_le (n := x / 256) (by omega)
  rw [Nat.pow_add];have : 2 ^ 8 = 256 := rfl;rw [this];have h2 := Nat.mul_le_mul_left 256 h1;omega
 ·exact Sort.two_pow_bitsLen_le h
section
variable {S : AS}
theorem qF (n k : Nat) (hk : k < 64) (t : TypeId) (c : Bool) : cK C0 .shr t c (.int .u64 n) (.int .u64 k) = some (.int .u64 ((n / 2 ^ k : Nat) : Int)) := by
 show some (j9 (Int.fdiv (n : Int) (.ofNat (Nat.pow 2 (Nat.min k IntKind.u64.bits)))) fun n => AV.int .u64 n) = _
 rw [eX];have h1 : Nat.min k IntKind.u64.bits = k := Nat.min_eq_left (Nat.le_of_lt hk);rw [h1];have h2 : (n : Int).fdiv (Int.ofNat (Nat.pow 2 k)) = ((n / 2 ^ k : Nat) : Int) := by
  show (n : Int).fdiv ((2 ^ k : Nat) : Int) = _;rw [Int.fdiv_eq_ediv_of_nonneg _ (Int.natCast_nonneg _)];exact (Int.natCast_ediv n (2 ^ k)).symm
 rw [h2]
def tabOk (s : ByteArray) : Bool := (List.range 256).all fun i => match Am.nth i (j4 UInt8.toNat s.data.toList) with | some n => Nat.beq n (Sort.bitsLen i) | none => false
theorem tabOk_at {s : ByteArray} (h : tabOk s = true) {i : Nat} (hi : i < 256) : Am.nth i (j4 UInt8.toNat s.data.toList) = some (Sort.bitsLen i) := by
 have h1 := List.all_eq_true.1 h i (List.mem_range.2 hi)
 split at h1
 ·rename_i n hn
  rw [hn, Nat.eq_of_beq_eq_true h1]
 ·cases h1
theorem A6 {F : Fr} {S : AS} {dst : Option Tmp} {ty : TypeId} {pos : String} {af : Array Edge} {gd : Option (Nat × Bool)} {s : ByteArray} {x : Tmp} {k : IntKind} {y : Nat} (hx : sl F x = .int k y) (hy : y < 256) (h : tabOk s = true) :
  bq C0 F S ⟨dst, .index 9 (.const (.string s)) (.tmp x), ty, pos, af, gd⟩ = .val (.int .u8 (Sort.bitsLen y : Nat)) S := by
 have hu : aZ C0 9 = some .string := by kernel_rfl
 have e1 : eval F (.const (.string s)) = .str (j4 UInt8.toNat s.data.toList) := rfl;simp only [bq, hu, e1, ay, hx, aM, tabOk_at h hy]
 rfl
theorem bl8 {y : Nat} (h : y < 256) : Sort.bitsLen y ≤ 8 := (Sort.bitsLen_le_iff y 8).2 h
set_option maxRecDepth 100000 in
theorem E7 {x : Nat} (hx : x < 1048577) {Q : AV → AS → Prop} : ai C0 105 [.int .u64 x] S Q = Q (.int .i64 (ua x : Nat)) S := by
 refine ai.eq (cv (dm _) (dn _ rfl) fn105 rfl ok105 (by simp) fun F hn s0 => ?_)
 have q1 : ¬ (4294967296 : Int) ≤ x := by omega
 obtain ⟨y, hy⟩ : ∃ y, y = x / 65536 := ⟨_, rfl⟩;obtain ⟨z, hz⟩ : ∃ z, z = x / 256 := ⟨_, rfl⟩;have r16 : ∀ c t, cK C0 .shr t c (.int .u64 x) (.int .u64 16) = some (.int .u64 (y : Int)) := fun c t => by rw [hy]; exact qF x 16 (by omega) t c
 have r8 : ∀ c t, cK C0 .shr t c (.int .u64 x) (.int .u64 8) = some (.int .u64 (z : Int)) := fun c t => by rw [hz]; exact qF x 8 (by omega) t c
 have y8 : y < 256 := by omega
 unfold ua;rw [← hy, ← hz]
 by_cases h16 : 65536 ≤ x
 ·have h16I : (65536 : Int) ≤ x := by omega
  have q2 : ¬ (256 : Int) ≤ y := by omega
  have q3 : ¬ 256 ≤ y := by omega
  have wy : IntKind.u8.wrap (y : Int) = (y : Int) := by simp [IntKind.wrap, IntKind.bits, IntKind.signed]; omega
  simp [s0, q1, h16, h16I, r16, q2, q3, wy];rw [A6 (k := .u8) (y := y) (by simp) y8 (by kernel_rfl)]
  have hb := bl8 y8;have e1 : IntKind.i64.wrap 16 = 16 := rfl;have e2 : IntKind.i64.wrap (Sort.bitsLen y : Nat) = (Sort.bitsLen y : Nat) := IntWalk.i64_in _ (by omega)
  have e3 : IntKind.i64.wrap (16 + ((Sort.bitsLen y : Nat) : Int)) = 16 + ((Sort.bitsLen y : Nat) : Int) := IntWalk.i64_in _ (by omega)
  simp [e1, e2, e3]
 ·have h16I : ¬ (65536 : Int) ≤ x := by omega
  by_cases h8 : 256 ≤ x
  ·have h8I : (256 : Int) ≤ x := by omega
   have z8 : z < 256 := by omega
   have wz : IntKind.u8.wrap (z : Int) = (z : Int) := by simp [IntKind.wrap, IntKind.bits, IntKind.signed]; omega
   simp [s0, q1, h16, h16I, h8, h8I, r8, wz];rw [A6 (k := .u8) (y := z) (by simp) z8 (by kernel_rfl)]
   have hb := bl8 z8;have e1 : IntKind.i64.wrap 8 = 8 := rfl;have e2 : IntKind.i64.wrap (Sort.bitsLen z : Nat) = (Sort.bitsLen z : Nat) := IntWalk.i64_in _ (by omega)
   have e3 : IntKind.i64.wrap (8 + ((Sort.bitsLen z : Nat) : Int)) = 8 + ((Sort.bitsLen z : Nat) : Int) := IntWalk.i64_in _ (by omega)
   simp [e1, e2, e3]
  ·have h8I : ¬ (256 : Int) ≤ x := by omega
   have x8 : x < 256 := by omega
   have wx : IntKind.u8.wrap (x : Int) = (x : Int) := by simp [IntKind.wrap, IntKind.bits, IntKind.signed]; omega
   simp [s0, q1, h16, h16I, h8, h8I, wx];rw [A6 (k := .u8) (y := x) (by simp) x8 (by kernel_rfl)]
   have hb := bl8 x8;have e2 : IntKind.i64.wrap (Sort.bitsLen x : Nat) = (Sort.bitsLen x : Nat) := IntWalk.i64_in _ (by omega)
   have e3 : IntKind.i64.wrap (0 + ((Sort.bitsLen x : Nat) : Int)) = ((Sort.bitsLen x : Nat) : Int) := by rw [Int.zero_add]; exact e2
   simp [e2, e3]
theorem lenN_bnd {x : Nat} (hx : x < 1048577) : ua x ≤ 24 := by
 unfold ua
 split
 ·have := bl8 (y := x / 65536) (by omega); omega
 split
 ·have h : Sort.bitsLen (x / 256) ≤ 8 := bl8 (by omega)
  omega
 ·have := bl8 (y := x) (by omega); omega
theorem Cw {x : Nat} (hx : x < 1048577) {Q : AV → AS → Prop} : ai C0 71 [.int .u64 x] S Q = Q (.int .i64 (ua x : Nat)) S := by
 refine ai.eq (cv (dm _) (dn _ rfl) fn71 rfl ok71 (by simp) fun F hn s0 => ?_)
 simp [s0, E7 hx, aR]
theorem shl_u64 (k : Nat) (hk : k < 64) (t : TypeId) (c : Bool) : cK C0 .shl t c (.int .u64 1) (.int .i64 k) = some (.int .u64 ((2 ^ k : Nat) : Int)) := by
 show some (mkI .u64 (Int.mul 1 (.ofNat (Nat.pow 2 (Nat.min k IntKind.u64.bits))))) = _;have h1 : Nat.min k IntKind.u64.bits = k := Nat.min_eq_left (Nat.le_of_lt hk);rw [h1, gp];have h2 : Int.mul 1 (Int.ofNat (Nat.pow 2 k)) = ((2 ^ k : Nat) : Int) := Int.one_mul _;have h3 : (2 : Nat) ^ k < 2 ^ 64 := Nat.pow_lt_pow_right (by omega) hk
 rw [h2];have h4 : IntKind.u64.wrap ((2 ^ k : Nat) : Int) = ((2 ^ k : Nat) : Int) := by
  generalize 2 ^ k = y at h3;simp [IntKind.wrap, IntKind.bits, IntKind.signed]; omega
 rw [h4]
theorem wrap64 (n : Int) : ∃ m : Nat, m < 18446744073709551616 ∧ IntKind.u64.wrap n = (m : Int) := by
 have h : 0 ≤ IntKind.u64.wrap n ∧ IntKind.u64.wrap n < 18446744073709551616 := by simp [IntKind.wrap, IntKind.bits, IntKind.signed]; omega
 exact ⟨(IntKind.u64.wrap n).toNat, by omega, by omega⟩
theorem BJ (a k : Nat) (t : TypeId) : ∃ m : Nat, m < 18446744073709551616 ∧ ∀ c, cK C0 .shl t c (.int .u64 a) (.int .u64 k) = some (.int .u64 (m : Int)) := by
 obtain ⟨m, h1, h2⟩ := wrap64 (Int.mul a (.ofNat (Nat.pow 2 (Nat.min k IntKind.u64.bits))));refine ⟨m, h1, fun c => ?_⟩
 show some (mkI .u64 (Int.mul a (.ofNat (Nat.pow 2 (Nat.min k IntKind.u64.bits))))) = _;rw [gp, h2]
theorem shr_some (a k : Nat) (ha : a < 18446744073709551616) (hk : k < 64) (t : TypeId) : ∃ m : Nat, m < 18446744073709551616 ∧ ∀ c, cK C0 .shr t c (.int .u64 a) (.int .u64 k) = some (.int .u64 (m : Int)) :=
 ⟨a / 2 ^ k, Nat.lt_of_le_of_lt (Nat.div_le_self _ _) ha, fun c => qF a k hk t c⟩
theorem uR (a b : Nat) (ha : a < 18446744073709551616) (hb : b < 18446744073709551616) (t : TypeId) : ∃ m : Nat, m < 18446744073709551616 ∧ ∀ c, cK C0 .xor t c (.int .u64 a) (.int .u64 b) = some (.int .u64 (m : Int)) := by
 have key : ∃ m : Nat, m < 18446744073709551616 ∧ n9 .xor .u64 a b = .int .u64 m := by
  show ∃ m : Nat, m < 18446744073709551616 ∧ cond (Nat.blt a (half .u64) && Nat.blt b (half .u64)) (e7 (Nat.xor a b) fun n => AV.int .u64 (Int.ofNat n)) (j9 (tM .xor .u64 a b) fun n => AV.int .u64 n) = AV.int .u64 m
  cases (Nat.blt a (half .u64) && Nat.blt b (half .u64)) with
  | true => exact ⟨a ^^^ b, Nat.xor_lt_two_pow (n := 64) ha hb, by rw [cond_true, aC]; rfl⟩
  | false =>
   obtain ⟨m, h1, h2⟩ := wrap64 (((BitVec.ofInt 64 a) ^^^ (BitVec.ofInt 64 b)).toNat : Int);refine ⟨m, h1, ?_⟩;rw [cond_false, eX];show AV.int .u64 (IntKind.u64.wrap (((BitVec.ofInt 64 a) ^^^ (BitVec.ofInt 64 b)).toNat : Int)) = _;rw [h2]
 obtain ⟨m, h1, h2⟩ := key;refine ⟨m, h1, fun c => ?_⟩
 show cond (iO .u64 .u64) (some (n9 .xor .u64 a b)) none = _;rw [h2, lE]; rfl
theorem and_some (a b : Nat) (ha : a < 18446744073709551616) (hb : b < 18446744073709551616) (t : TypeId) : ∃ m : Nat, m ≤ b ∧ ∀ c, cK C0 .and t c (.int .u64 a) (.int .u64 b) = some (.int .u64 (m : Int)) := by
 have key : ∃ m : Nat, m ≤ b ∧ n9 .and .u64 a b = .int .u64 m := by
  show ∃ m : Nat, m ≤ b ∧ cond (Nat.blt a (half .u64) && Nat.blt b (half .u64)) (e7 (Nat.land a b) fun n => AV.int .u64 (Int.ofNat n)) (j9 (tM .and .u64 a b) fun n => AV.int .u64 n) = AV.int .u64 m
  cases (Nat.blt a (half .u64) && Nat.blt b (half .u64)) with
  | true => exact ⟨a &&& b, Nat.and_le_right, by rw [cond_true, aC]; rfl⟩
  | false =>
   refine ⟨a &&& b, Nat.and_le_right, ?_⟩;rw [cond_false, eX];show AV.int .u64 (IntKind.u64.wrap (((BitVec.ofInt 64 a) &&& (BitVec.ofInt 64 b)).toNat : Int)) = _;have h1 : (BitVec.ofInt 64 (a : Int)).toNat = a := by simp; omega
   have h2 : (BitVec.ofInt 64 (b : Int)).toNat = b := by simp; omega
   rw [BitVec.toNat_and, h1, h2];have h3 : a &&& b ≤ b := Nat.and_le_right;have h4 : IntKind.u64.wrap ((a &&& b : Nat) : Int) = ((a &&& b : Nat) : Int) := by
    generalize a &&& b = y at h3;simp [IntKind.wrap, IntKind.bits, IntKind.signed]; omega
   rw [h4]
 obtain ⟨m, h1, h2⟩ := key;refine ⟨m, h1, fun c => ?_⟩
 show cond (iO .u64 .u64) (some (n9 .and .u64 a b)) none = _;rw [h2, lE]; rfl
theorem np2_sort {x : Nat} (hx : x < 1048577) {Q : AV → AS → Prop} : ai C0 128 [.int .i64 x] S Q = Q (.int .u64 ((2 ^ ua x : Nat) : Int)) S := by
 refine ai.eq (cv (dm _) (dn _ rfl) fn128 rfl ok128 (by simp) fun F hn s0 => ?_)
 have hw : IntKind.u64.wrap (x : Int) = (x : Int) := by simp [IntKind.wrap, IntKind.bits, IntKind.signed]; omega
 have hs := fun c t => shl_u64 (ua x) (by have := lenN_bnd hx; omega) t c
 simp [s0, hw, Cw hx, aR, hs]
end
section
variable {S : AS} {v : AV} {d : Array Nat}
theorem nt129 : Tryz.f129.ntmps = 33 := by kernel_rfl
set_option maxRecDepth 20000 in
theorem xor_sort {B n : Nat} (hB : S.h.get B = some (.row [.int .u64 n] 0 0 false 149)) (hn0 : n < 18446744073709551616) : ai C0 129 [.ptr B 0 0 1] S fun r T => ∃ m : Nat, m < 18446744073709551616 ∧ r = .int .u64 m ∧ T.h.get B = some (.row [.int .u64 m] 0 0 false 149) ∧ eS (fun id => id = B) S T ∧ T.next = S.next := by
 obtain ⟨a1, ha1, ea1⟩ := BJ n 13 149;obtain ⟨b1, lJ, eb1⟩ := uR n a1 hn0 ha1 149;obtain ⟨a2, ha2, ea2⟩ := shr_some b1 7 lJ (by omega) 149
 obtain ⟨b2, pe, eb2⟩ := uR b1 a2 lJ ha2 149;obtain ⟨a3, ha3, ea3⟩ := BJ b2 17 149;obtain ⟨b3, hb3, eb3⟩ := uR b2 a3 pe ha3 149;simp at ea1 ea2 ea3;refine cv (dm _) (dn _ rfl) fn129 rfl ok129 (by simp) fun F hn s0 => ?_
 rw [nt129] at hn;simp [s0];refine aA [.p, .p, .r 0 0, .p, .p, .r 0 0, .p, .p, .p, .e []] (n := 33) (by kernel_rfl) (by simp [hn]) ?_
 simp [s0, hB, ea1, eb1];refine aA [.p, .p, .r 0 0, .p, .p, .r 0 0, .p, .p, .p, .e []] (n := 33) (by kernel_rfl) (by simp [hn]) ?_
 simp [s0, hB, ea2, eb2];refine aA [.p, .p, .r 0 0, .p, .p, .r 0 0, .p, .p, .p, .e []] (n := 33) (by kernel_rfl) (by simp [hn]) ?_
 simp [s0, hB, ea3, eb3];exact ⟨b3, hb3, rfl, ((eS.refl.set (A := fun id => id = B) (.inr rfl) (Nat.le_refl _)).set (.inr rfl) (Nat.le_refl _)).set (.inr rfl) (Nat.le_refl _)⟩
theorem nt97 : Tryz.f97.ntmps = 65 := by kernel_rfl
def brkH (S : AS) (v : AV) (d : Array Nat) (a b l q M : Nat) (k : Nat) (F' : Fr) (S' : AS) : Prop :=
 ∃ (idx B r : Nat) (d' : Array Nat), aQ S' v d' ∧ eS (fun id => cJ v = id + 1) S S' ∧ Sort.PermIn a b d d' ∧ S'.h.get B = some (.row [.int .u64 r] 0 0 false 149) ∧ r < 18446744073709551616 ∧ S.next ≤ B ∧ B < S'.next ∧ cJ v ≠ B + 1 ∧ sl F' 0 = v ∧ sl F' 1 = .int .i64 a ∧ sl F' 6 = .int .i64 l ∧ sl F' 7 = .ptr B 0 0 1 ∧ sl F' 8 = .int .u64 M ∧ sl F' 9 = .int .i64 idx ∧ F'.n = 65 ∧ a ≤ idx ∧ idx ≤ a + q * 2 + 2 ∧ k = a + q * 2 + 2 - idx
set_option maxRecDepth 20000 in
theorem brk_sort (h : aQ S v d) {a b : Nat} (qz : a + 8 < b) (hb : b ≤ d.size) (fi : d.size ≤ 1048576) : ai C0 97 [v, .int .i64 a, .int .i64 b] S fun r T => r = .tuple [] ∧ ∃ d', Sort.PermIn a b d d' ∧ aQ T v d' ∧ dc v S T := by
 have wk := h.ok;have hold := h.gw.1.old;obtain ⟨l, hl⟩ : ∃ l, l = b - a := ⟨_, rfl⟩;obtain ⟨q, hq⟩ : ∃ q, q = l / 4 := ⟨_, rfl⟩;have hq4 : q * 4 ≤ l := by omega
 have hq2 : 2 ≤ q := by omega
 have w2 : Int.tdiv (l : Int) 4 = (q : Int) := by rw [hq]; rfl
 clear hq;have w1 : IntKind.i64.wrap ((b : Int) - a) = (l : Int) := by rw [IntWalk.i64_in _ (by omega)]; omega
 have wU : IntKind.i64.wrap (q : Int) = (q : Int) := IntWalk.i64_in _ (by omega)
 obtain ⟨q2, hq2'⟩ : ∃ q2, q2 = q * 2 := ⟨_, rfl⟩;have w3 : IntKind.i64.wrap ((q : Int) * 2) = (q2 : Int) := by rw [IntWalk.i64_in _ (by omega)]; omega
 obtain ⟨y, hy⟩ : ∃ y, y = a + q2 := ⟨_, rfl⟩;have w4 : IntKind.i64.wrap ((a : Int) + q2) = (y : Int) := by rw [IntWalk.i64_in _ (by omega)]; omega
 have w5 : IntKind.i64.wrap ((y : Int) - 1) = ((y - 1 : Nat) : Int) := by rw [im (by omega)]; omega
 have w6 := dp (n := y) (by omega)
 have wl : IntKind.u64.wrap (l : Int) = (l : Int) := by simp [IntKind.wrap, IntKind.bits, IntKind.signed]; omega
 have h8 : (8 : Int) ≤ l := by omega
 have hM := lenN_le (x := l) (by omega)
 have hMp : 0 < 2 ^ ua l := Nat.pow_pos (by omega)
 obtain ⟨M, hMd⟩ : ∃ M, M = 2 ^ ua l := ⟨_, rfl⟩;rw [← hMd] at hM hMp;have e0 := fun (S : AS) (Q : AV → AS → Prop) => np2_sort (S := S) (x := l) (by omega) (Q := Q)
 rw [← hMd] at e0;refine ka (dm _) (dn _ rfl) fn97 rfl ok97 (by simp) fun F hn s0 s1 s2 => ?_
 rw [nt97] at hn;have hA : Sub S ⟨(S.h.set S.next (.row [.int .u64 0] 0 0 false 149)).set S.next (.row [.int .u64 l] 0 0 false 149), S.next + 1⟩ := jf;simp [s0, s1, s2, w1, w2, wU, w3, w4, w5, wl, h8, e0, aR];refine aB (brkH S v d a b l q M) (a + q * 2 + 2 - (y - 1)) ⟨y - 1, S.next, l, d, h.sub hA, hA.bm, Sort.permIn_refl d a b, aa _ _ _, by omega, Nat.le_refl _, Nat.lt_succ_self _, by omega, by simp [s0], by simp [s1], by simp, by simp, by simp, by simp, by simp [hn], by omega, by omega, rfl⟩ ?_
 clear s0 s1 s2 hn hA w5 w1
 rintro k F' S' df ⟨idx, B, r, d', h1, h2, h3, hB, hr, hBS, hBl, hBv, s0, s1, s6, s7, s8, s9, hn, hi1, hi2, hk⟩
 clear df;have u1 := h1.sl;have u2 := h1.len;have fB := h1.gw.1.ok;have vS := h3.1
 by_cases hc : idx ≤ y + 1
 ·have uF : (idx : Int) ≤ (y : Int) + 1 := by omega
  obtain ⟨rr, T1, ⟨m, hm, rfl, hB1, k1, n1⟩, e1⟩ := (xor_sort hB hr).ex;have wM : IntKind.u64.wrap ((M : Int) - 1) = ((M - 1 : Nat) : Int) := by
   rw [show ((M : Int) - 1) = ((M - 1 : Nat) : Int) by omega]
   generalize hz : M - 1 = z;simp [IntKind.wrap, IntKind.bits, IntKind.signed]; omega
  obtain ⟨o, ho, e2⟩ := and_some m (M - 1) hm (by omega) 105
  have wo : IntKind.i64.wrap (o : Int) = (o : Int) := IntWalk.i64_in _ (by omega)
  have g1 : aQ T1 v d' := h1.bR (fun id e => k1.h id (by have := h1.gw.1.old; omega) (fun e2 => hBv (by rw [e, e2]))) k1.next
  have wi := dp (n := idx) (by omega)
  have k2 : eS (fun id => cJ v = id + 1) S T1 := ⟨fun id i1 i2 => (k1.h id (Nat.lt_of_lt_of_le i1 h2.next) (fun e => by omega)).trans (h2.h id i1 i2), Nat.le_trans h2.next k1.next⟩
  have fin : ∀ o' : Nat, o' < l → ∀ T2 T3 : AS, wrV T1 (rW v idx) [.int .u64 (nth d' (a + o') : Nat)] = some T2 → wrV T2 (rW v (a + o')) [.int .u64 (nth d' idx : Nat)] = some T3 → aQ T3 v (Sort.swp d' idx (a + o')) → dc v T1 T3 → T3.next = T1.next → Sort.PermIn a b d (Sort.swp d' idx (a + o')) ∧ T3.h.get B = some (.row [.int .u64 m] 0 0 false 149) ∧ B < T3.next ∧ eS (fun id => cJ v = id + 1) S T3 := fun o' gR T2 T3 _ _ _ k3 n3 =>
   ⟨Sort.permIn_trans _ _ _ a b h3 (Sort.swp_permIn d' a b idx (a + o') hi1 (by omega) (by omega) (by omega) (by omega)), by rw [k3.h B (by omega) hBv]; exact hB1, by omega, k2.trans k3⟩
  by_cases hol : o < l
  ·have holI : ¬ (l : Int) ≤ o := by omega
   obtain ⟨x, hx⟩ : ∃ x, x = a + o := ⟨_, rfl⟩;have wx : IntKind.i64.wrap ((a : Int) + o) = (x : Int) := by rw [IntWalk.i64_in _ (by omega)]; omega
   obtain ⟨T2, T3, f1, f2, t1, t2, t3⟩ := g1.swap (i := idx) (j := x) (by omega) (by omega)
   rw [hx] at f1 f2 t1;obtain ⟨p1, p2, p3, p4⟩ := fin o hol T2 T3 f1 f2 t1 t2 t3;rw [← hx] at f1 f2 t1 p1;have li := g1.ld (i := idx) (by omega)
   have lx := g1.ld (i := x) (by omega)
   have qi : idx < d'.size := by omega
   have qx : x < d'.size := by omega
   simp [s0, s1, s6, s7, s8, s9, w2, wU, w3, w4, w6, uF, e1, aR, wM, e2, wo, holI];refine aA [.p, .p, .p, .p, .p, .p, .p, .p, .p, .p, .p, .r 0 0, .p, .p, .p, .r 0 0, .p, .e [], .p, .e []] (n := 65) (by kernel_rfl) (by simp [hn]) ?_
   simp [s0, s1, s6, s7, s8, s9, u1, u2, wk, fB, wx, li, lx, qi, qx, f1, f2];exact ⟨a + q * 2 + 2 - (idx + 1), by omega, idx + 1, B, m, _, t1, p4, p1, p2, hm, hBS, p3, hBv, by simp [s0], by simp [s1], by simp [s6], by simp [s7], by simp [s8], by simp [wi], by simp [hn], by omega, by omega, rfl⟩
  ·have holI : (l : Int) ≤ o := by omega
   obtain ⟨o2, qw⟩ : ∃ o2, o2 = o - l := ⟨_, rfl⟩;have wo2 : IntKind.i64.wrap ((o : Int) - l) = (o2 : Int) := by rw [IntWalk.i64_in _ (by omega)]; omega
   obtain ⟨x, hx⟩ : ∃ x, x = a + o2 := ⟨_, rfl⟩;have wx : IntKind.i64.wrap ((a : Int) + o2) = (x : Int) := by rw [IntWalk.i64_in _ (by omega)]; omega
   obtain ⟨T2, T3, f1, f2, t1, t2, t3⟩ := g1.swap (i := idx) (j := x) (by omega) (by omega)
   rw [hx] at f1 f2 t1;obtain ⟨p1, p2, p3, p4⟩ := fin o2 (by omega) T2 T3 f1 f2 t1 t2 t3
   rw [← hx] at f1 f2 t1 p1;have li := g1.ld (i := idx) (by omega)
   have lx := g1.ld (i := x) (by omega)
   have qi : idx < d'.size := by omega
   have qx : x < d'.size := by omega
   simp [s0, s1, s6, s7, s8, s9, w2, wU, w3, w4, w6, uF, e1, aR, wM, e2, wo, holI, wo2];refine aA [.p, .p, .p, .p, .p, .p, .p, .p, .p, .p, .p, .r 0 0, .p, .p, .p, .r 0 0, .p, .e [], .p, .e []] (n := 65) (by kernel_rfl) (by simp [hn]) ?_
   simp [s0, s1, s6, s7, s8, s9, u1, u2, wk, fB, wx, li, lx, qi, qx, f1, f2];exact ⟨a + q * 2 + 2 - (idx + 1), by omega, idx + 1, B, m, _, t1, p4, p1, p2, hm, hBS, p3, hBv, by simp [s0], by simp [s1], by simp [s6], by simp [s7], by simp [s8], by simp [wi], by simp [hn], by omega, by omega, rfl⟩
 ·have uF : ¬ (idx : Int) ≤ (y : Int) + 1 := by omega
  simp [s0, s1, s6, s7, s8, s9, w2, wU, w3, w4, w6, uF];exact ⟨d', h3, h1, h2⟩
end
structure Pd (S T : AS) (v : AV) (d d2 : Array Nat) (a b a2 b2 : Nat) : Prop where
 num : aQ T v d2
 bm : dc v S T
 size : d2.size = d.size
 below : Sort.Below aT a2 b2 d2
 fin : ∀ R, Sort.PermIn a2 b2 d2 R → Sort.SortedIn aT a2 b2 R → Sort.PermIn a b d R ∧ Sort.SortedIn aT a b R
section
variable {S T U : AS} {v : AV} {d d2 d3 : Array Nat} {a b a2 b2 : Nat}
theorem Pd.perm (h : Pd S T v d d2 a b a2 b2) (hb : b2 ≤ d.size) (hp : Sort.PermIn a2 b2 d2 d3) (hn : aQ U v d3) (hk : dc v T U) : Pd S U v d d3 a b a2 b2 :=
 ⟨hn, h.bm.trans hk, hp.1.trans h.size, h.below.perm (by rw [h.size]; exact hb) hp, fun R hR hs => h.fin R (Sort.permIn_trans _ _ _ _ _ hp hR) hs⟩
def pdH (S : AS) (v : AV) (d : Array Nat) (a b : Nat) (k : Nat) (F' : Fr) (S' : AS) : Prop :=
 ∃ (a2 b2 : Nat) (lim : Int) (wb wp : Bool) (d2 : Array Nat), Pd S S' v d d2 a b a2 b2 ∧ sl F' 0 = v ∧ sl F' 1 = .int .i64 a2 ∧ sl F' 2 = .int .i64 b2 ∧ sl F' 3 = .int .i64 lim ∧ sl F' 8 = .bool wb ∧ sl F' 9 = .bool wp ∧ F'.n = 134 ∧ a ≤ a2 ∧ a2 ≤ b2 ∧ b2 ≤ b ∧ k = b2 - a2
def pdM (S : AS) (v : AV) (d : Array Nat) (a b a2 b2 l : Nat) (wb wp : Bool) (F' : Fr) (S' : AS) : Prop :=
 ∃ (lim : Int) (d2 : Array Nat), Pd S S' v d d2 a b a2 b2 ∧ sl F' 0 = v ∧ sl F' 1 = .int .i64 a2 ∧ sl F' 2 = .int .i64 b2 ∧ sl F' 3 = .int .i64 lim ∧ sl F' 8 = .bool wb ∧ sl F' 9 = .bool wp ∧ sl F' 10 = .int .i64 l ∧ F'.n = 134
def pdM2 (S : AS) (v : AV) (d : Array Nat) (a b a2 b2 l : Nat) (wb wp : Bool) (F' : Fr) (S' : AS) : Prop :=
 ∃ (lim : Int) (p hint : Nat) (d2 : Array Nat), Pd S S' v d d2 a b a2 b2 ∧ sl F' 0 = v ∧ sl F' 1 = .int .i64 a2 ∧ sl F' 2 = .int .i64 b2 ∧ sl F' 3 = .int .i64 lim ∧ sl F' 8 = .bool wb ∧ sl F' 9 = .bool wp ∧ sl F' 10 = .int .i64 l ∧ sl F' 11 = .int .i64 p ∧ sl F' 12 = .int .i64 hint ∧ a2 ≤ p ∧ p < b2 ∧ F'.n = 134
theorem nt70 : Tryz.f70.ntmps = 134 := by kernel_rfl
set_option maxRecDepth 20000 in
theorem pdq_sort {v : AV} : ∀ (N : Nat) (S : AS) (d : Array Nat) (a b : Nat) (lim : Int), d.size ≤ 1048576 → b - a < N → aQ S v d → a ≤ b → b ≤ d.size → Sort.Below aT a b d →
  ai C0 70 [v, .int .i64 a, .int .i64 b, .int .i64 lim] S fun r T => r = .tuple [] ∧ ∃ d', Sort.PermIn a b d d' ∧ Sort.SortedIn aT a b d' ∧ aQ T v d' ∧ dc v S T := by
 intro N
 induction N with
 | zero => intro S d a b lim _ h; omega
 | succ N ih =>
  intro S d a b lim fi hN h qz hb hB;refine wa (dm _) (dn _ rfl) fn70 rfl ok70 (by simp) fun F hn s0 s1 s2 s3 => ?_
  rw [nt70] at hn;simp [s0, s1, s2, s3];refine aB (pdH S v d a b) (b - a) ⟨a, b, lim, true, true, d, ⟨h, eS.refl, rfl, hB, fun R hR hs => ⟨hR, hs⟩⟩, by simp [s0], by simp [s1], by simp [s2], by simp [s3], by simp, by simp, by simp [hn], Nat.le_refl _, qz, Nat.le_refl _, rfl⟩ ?_
  clear s0 s1 s2 s3 hn
  rintro k F S1 df ⟨a2, b2, lim, wb, wp, d2, hP, s0, s1, s2, s3, s8, s9, hn, ha2, hab2, pe, hk⟩
  clear df;have wk := hP.num.ok;have hsz2 := hP.size;obtain ⟨l, hl⟩ : ∃ l, l = b2 - a2 := ⟨_, rfl⟩;have w1 : IntKind.i64.wrap ((b2 : Int) - a2) = (l : Int) := by rw [IntWalk.i64_in _ (by omega)]; omega
  by_cases DT : l ≤ 12
  ·have h12I : (l : Int) ≤ 12 := by omega
   obtain ⟨r, T, ⟨rfl, t1, t2⟩, e1⟩ := (ins_sort hP.num hab2 (by omega) (by omega)).ex
   obtain ⟨p1, p2⟩ := Sort.insertionSort_holds (lt := aT) oA d2 a2 b2 hab2 (by omega)
   obtain ⟨q1, q2⟩ := hP.fin _ p1 p2;simp [s0, s1, s2, s3, s8, s9, w1, h12I, wk, e1, aR];exact ⟨_, q1, q2, t1, hP.bm.trans t2⟩
  have h12I : ¬ (l : Int) ≤ 12 := by omega
  by_cases hlim : lim = 0
  ·obtain ⟨r, T, ⟨rfl, t1, t2⟩, e1⟩ := (heap_sort hP.num (a := a2) (b := b2) (by omega) (by omega) (by omega)).ex
   obtain ⟨p1, p2⟩ := Sort.heapSort_holds (lt := aT) oA d2 a2 b2 hab2 (by omega)
   obtain ⟨q1, q2⟩ := hP.fin _ p1 p2;simp [s0, s1, s2, s3, s8, s9, w1, h12I, hlim, wk, e1, aR];exact ⟨_, q1, q2, t1, hP.bm.trans t2⟩
  simp [-dO, s0, s1, s2, s3, s8, s9, w1];rw [dO];simp [-dO, s0, s1, s2, s3, s8, s9, h12I];rw [dO];simp [-dO, s0, s1, s2, s3, s8, s9, hlim];refine iB (pdM S v d a b a2 b2 l wb wp) ?_ ?_
  ·cases wb with
   | true =>
    simp;exact ⟨lim, d2, hP, by simp [s0], by simp [s1], by simp [s2], by simp [s3], by simp [s8], by simp [s9], by simp, by simp [hn]⟩
   | false =>
    obtain ⟨r, T, ⟨rfl, d3, t0, t1, t2⟩, e1⟩ := (brk_sort hP.num (a := a2) (b := b2) (by omega) (by omega) (by omega)).ex
    simp [s0, s1, s2, s3, s8, s9, wk, e1, aR];exact ⟨IntKind.i64.wrap (lim - 1), d3, hP.perm (by omega) t0 t1 t2, by simp [s0], by simp [s1], by simp [s2], by simp, by simp [s8], by simp [s9], by simp, by simp [hn]⟩
  clear s0 s1 s2 s3 s8 s9 hn hP hsz2 hlim
  rintro F T ⟨lim, d2, hP, s0, s1, s2, s3, s8, s9, l9, hn⟩
  have hsz2 := hP.size;obtain ⟨r, T1, ⟨p, hint, rfl, pU, rG, iv⟩, e1⟩ := (piv_sort hP.num (a := a2) (b := b2) (by omega) (by omega) (by omega)).ex
  have hP1 : Pd S T1 v d d2 a b a2 b2 := ⟨hP.num.sub iv, hP.bm.trans iv.bm, hP.size, hP.below, hP.fin⟩;simp [-dO, aP, s0, s1, s2, s3, s8, s9, l9, wk, e1, aR];refine iB (pdM2 S v d a b a2 b2 l wb wp) ?_ ?_
  ·by_cases hh2 : hint = 2
   ·have hh2I : (hint : Int) = 2 := by omega
    obtain ⟨r, T2, ⟨rfl, t1, t2⟩, e2⟩ := (rev_sort hP1.num (a := a2) (b := b2) (by omega) (by omega) (by omega)).ex
    have t0 := Sort.reverseRange_holds d2 a2 b2 hab2 (by omega)
    have w2 : IntKind.i64.wrap ((b2 : Int) - 1) = ((b2 - 1 : Nat) : Int) := by rw [im (by omega)]; omega
    have w3 : IntKind.i64.wrap ((p : Int) - a2) = ((p - a2 : Nat) : Int) := by rw [IntWalk.i64_in _ (by omega)]; omega
    have w4 : IntKind.i64.wrap (((b2 - 1 : Nat) : Int) - ((p - a2 : Nat) : Int)) = ((b2 - 1 - (p - a2) : Nat) : Int) := by rw [IntWalk.i64_in _ (by omega)]; omega
    simp [s0, s1, s2, s3, s8, s9, l9, wk, hh2, e2, aR, w2, w3, w4];exact ⟨lim, b2 - 1 - (p - a2), 1, _, hP1.perm (by omega) t0 t1 t2, by simp [s0], by simp [s1], by simp [s2], by simp [s3], by simp [s8], by simp [s9], by simp [l9], by simp, by simp, by omega, by omega, by simp [hn]⟩
   ·have hh2I : ¬ (hint : Int) = 2 := by omega
    simp [s0, s1, s2, s3, s8, s9, l9, hh2, hh2I];exact ⟨lim, p, hint, d2, hP1, by simp [s0], by simp [s1], by simp [s2], by simp [s3], by simp [s8], by simp [s9], by simp [l9], by simp, by simp, pU, rG, by simp [hn]⟩
  clear s0 s1 s2 s3 s8 s9 l9 hn hP hP1 hsz2 e1 iv T1 pU rG p hint
  rintro F T ⟨lim, p, hint, d2, hP, s0, s1, s2, s3, s8, s9, l9, yq, yp, pU, rG, hn⟩
  have hsz2 := hP.size;obtain ⟨c, hc⟩ : ∃ c : Bool, c = (wb && (wp && decide ((hint : Int) = 1))) := ⟨_, rfl⟩;simp only [aP, lW];refine iB (fun F' S' => S' = T ∧ sl F' 0 = v ∧ sl F' 1 = .int .i64 a2 ∧ sl F' 2 = .int .i64 b2 ∧ sl F' 3 = .int .i64 lim ∧ sl F' 8 = .bool wb ∧ sl F' 9 = .bool wp ∧ sl F' 10 = .int .i64 l ∧ sl F' 11 = .int .i64 p ∧ sl F' 12 = .int .i64 hint ∧ sl F' 68 = .bool c ∧ F'.n = 134) ?_ ?_
  ·cases wb with
   | false =>
    rw [Bool.false_and] at hc;subst hc;simp [s0, s1, s2, s3, s8, s9, l9, yq, yp];exact hn
   | true =>
    cases wp with
    | false =>
     rw [Bool.false_and, Bool.and_false] at hc;subst hc;simp [s0, s1, s2, s3, s8, s9, l9, yq, yp];exact hn
    | true =>
     by_cases h1 : (hint : Int) = 1
     ·rw [decide_eq_true h1] at hc
      have DU : hint = 1 := by omega
      subst hc;simp [s0, s1, s2, s3, s8, s9, l9, yq, yp, DU];exact hn
     ·rw [decide_eq_false h1] at hc
      have DU : ¬ hint = 1 := by omega
      subst hc;simp [s0, s1, s2, s3, s8, s9, l9, yq, yp, h1, DU];exact hn
  clear s0 s1 s2 s3 s8 s9 l9 yq yp hn
  rintro F V ⟨e0, s0, s1, s2, s3, s8, s9, l9, yq, yp, s68, hn⟩
  subst e0;simp only [aP, lW];refine iB (pdM2 S v d a b a2 b2 l wb wp) ?_ ?_
  ·cases c with
   | false =>
    simp [s68];exact ⟨lim, p, hint, d2, hP, s0, s1, s2, s3, s8, s9, l9, yq, yp, pU, rG, hn⟩
   | true =>
    obtain ⟨r, T1, ⟨rfl, t1, t2⟩, e1⟩ := (par_sort hP.num (a := a2) (b := b2) (by omega) (by omega) (by omega)).ex
    obtain ⟨p1, p2⟩ := Sort.partialInsertionSort_holds (lt := aT) oA d2 a2 b2 (by omega) (by omega) hP.below
    cases hr : (Sort.partialInsertionSort aT d2 a2 b2).2 with
    | true =>
     rw [hr] at e1;obtain ⟨q1, q2⟩ := hP.fin _ p1 (p2 hr);simp [s0, s1, s2, s3, s8, s9, l9, yq, yp, s68, wk, e1, aR];exact ⟨_, q1, q2, t1, hP.bm.trans t2⟩
    | false =>
     rw [hr] at e1;simp [s0, s1, s2, s3, s8, s9, l9, yq, yp, s68, wk, e1, aR];exact ⟨lim, p, hint, _, hP.perm (by omega) p1 t1 t2, by simp [s0], by simp [s1], by simp [s2], by simp [s3], by simp [s8], by simp [s9], by simp [l9], by simp [yq], by simp [yp], pU, rG, by simp [hn]⟩
  clear s0 s1 s2 s3 s8 s9 l9 yq yp s68 hn hP hsz2 pU rG hc
  rintro F T ⟨lim, p, hint, d2, hP, s0, s1, s2, s3, s8, s9, l9, yq, yp, pU, rG, hn⟩
  have hsz2 := hP.size;have u1 := hP.num.sl;have u2 := hP.num.len;have fB := hP.num.gw.1.ok;have lp := hP.num.ld (i := p) (by omega)
  have qp : p < d2.size := by omega
  obtain ⟨c, hc⟩ : ∃ c : Bool, c = (decide (0 < a2) && !aT (nth d2 (a2 - 1)) (nth d2 p)) := ⟨_, rfl⟩;simp only [aP, lW];refine iB (fun F' S' => S' = T ∧ sl F' 0 = v ∧ sl F' 1 = .int .i64 a2 ∧ sl F' 2 = .int .i64 b2 ∧ sl F' 3 = .int .i64 lim ∧ sl F' 8 = .bool wb ∧ sl F' 9 = .bool wp ∧ sl F' 10 = .int .i64 l ∧ sl F' 11 = .int .i64 p ∧ sl F' 12 = .int .i64 hint ∧ sl F' 87 = .bool c ∧ F'.n = 134) ?_ ?_
  ·simp
   refine aA [.p, .p, .p, .p, .p, .p, .p, .r 0 0, .p, .p, .p, .r 0 0, .e [], .p, .p] (n := 134) (by kernel_rfl) (by simp [hn]) ?_
   cases a2 with
   | zero =>
    have iP : c = false := hc;subst iP;simp [s0, s1, s2, s3, s8, s9, l9, yq, yp, ej];exact hn
   | succ m =>
    rw [Nat.add_sub_cancel] at hc;have l0 := hP.num.ld (i := m) (by omega)
    have q0 : m < d2.size := by omega
    have g0 : (0 : Int) < (m : Int) + 1 := by omega
    have wm : IntKind.i64.wrap ((m : Int) + 1 - 1) = (m : Int) := by rw [show (m : Int) + 1 - 1 = m by omega]; exact IntWalk.i64_in _ (by omega)
    have wm' : IntKind.i64.wrap (m : Int) = (m : Int) := IntWalk.i64_in _ (by omega)
    have s1' := s1;simp at s1
    cases aL : aT (nth d2 m) (nth d2 p) with
    | true =>
     rw [aL] at hc;simp at hc;subst hc;simp [s0, s1, s2, s3, s8, s9, l9, yq, yp, g0, wm, wm', u1, u2, wk, fB, l0, lp, q0, qp, aG, aL, aR];exact hn
    | false =>
     rw [aL] at hc;simp at hc;subst hc;simp [s0, s1, s2, s3, s8, s9, l9, yq, yp, g0, wm, wm', u1, u2, wk, fB, l0, lp, q0, qp, aG, aL, aR];exact hn
  clear s0 s1 s2 s3 s8 s9 l9 yq yp hn
  rintro F V ⟨e0, s0, s1, s2, s3, s8, s9, l9, yq, yp, s87, hn⟩
  subst e0
  cases c with
  | true =>
   simp only [Eq.comm (a := true), Bool.and_eq_true, decide_eq_true_eq, Bool.not_eq_true'] at hc;obtain ⟨r, T1, ⟨rfl, t1, t2⟩, e1⟩ := (peq_sort hP.num (a := a2) (b := b2) (pivot := p) pU rG (by omega) (by omega)).ex
   obtain ⟨g1, g2, g3, g4, g5⟩ := Sort.round_eq oA (Sort.partitionEqual_holds aT) (d3 := d2) (d4 := (Sort.partitionEqual aT d2 a2 b2 p).2) (mid := (Sort.partitionEqual aT d2 a2 b2 p).1) hc.1 pU rG (by omega) hP.below hc.2 rfl
   generalize (Sort.partitionEqual aT d2 a2 b2 p).1 = mid at g1 g2 g4 g5 e1;generalize (Sort.partitionEqual aT d2 a2 b2 p).2 = d4 at g3 g4 g5 t1;have hP2 : Pd S T1 v d d4 a b mid b2 := ⟨t1, hP.bm.trans t2, g3.trans hP.size, g4, fun R hR hs => by
    obtain ⟨q1, q2⟩ := g5 R hR hs;exact hP.fin R q1 q2⟩
   simp [aP, s0, s1, s2, s3, s8, s9, l9, yq, yp, s87, wk, e1, aR];exact ⟨b2 - mid, by omega, mid, b2, lim, wb, wp, d4, hP2, by simp [s0], by simp, by simp [s2], by simp [s3], by simp [s8], by simp [s9], by simp [hn], by omega, g2, pe, rfl⟩
  | false =>
   obtain ⟨r, T1, ⟨rfl, t1, t2⟩, e1⟩ := (prt_sort hP.num (a := a2) (b := b2) (pivot := p) pU rG (by omega) (by omega)).ex
   obtain ⟨g1, g2, g3, g4, g5, g6, g7⟩ := Sort.round_part oA (Sort.partition_holds aT) (d3 := d2) (d4 := (Sort.partition aT d2 a2 b2 p).2.2) (mid := (Sort.partition aT d2 a2 b2 p).1) (ap := (Sort.partition aT d2 a2 b2 p).2.1) pU rG (by omega) hP.below rfl
   generalize (Sort.partition aT d2 a2 b2 p).1 = mid at g1 g2 g4 g5 g6 g7 e1;generalize (Sort.partition aT d2 a2 b2 p).2.1 = ap at e1;generalize (Sort.partition aT d2 a2 b2 p).2.2 = d4 at g3 g4 g5 g6 g7 t1;obtain ⟨l8, hl8⟩ : ∃ l8, l8 = l / 8 := ⟨_, rfl⟩;have w8 : Int.tdiv (l : Int) 8 = (l8 : Int) := by rw [hl8]; rfl
   have w8' : IntKind.i64.wrap (l8 : Int) = (l8 : Int) := IntWalk.i64_in _ (by omega)
   obtain ⟨x, hx⟩ : ∃ x, x = mid - a2 := ⟨_, rfl⟩;obtain ⟨y, hy⟩ : ∃ y, y = b2 - mid := ⟨_, rfl⟩;have wx : IntKind.i64.wrap ((mid : Int) - a2) = (x : Int) := by rw [IntWalk.i64_in _ (by omega)]; omega
   have wy : IntKind.i64.wrap ((b2 : Int) - mid) = (y : Int) := by rw [IntWalk.i64_in _ (by omega)]; omega
   have wm := dp (n := mid) (by omega)
   by_cases rF : x < y
   ·obtain ⟨r, T2, ⟨rfl, L, r1, r2, r3, r4⟩, e2⟩ := (ih T1 d4 a2 mid lim (by omega) (by omega) t1 g1 (by omega) g4).ex
    obtain ⟨h1, h2⟩ := g6 L r1 r2;have hP2 : Pd S T2 v d L a b (mid + 1) b2 := ⟨r3, (hP.bm.trans t2).trans r4, r1.1.trans (g3.trans hP.size), h1, fun R hR hs => by
     obtain ⟨q1, q2⟩ := h2 R hR hs;exact hP.fin R q1 q2⟩
    simp [aP, s0, s1, s2, s3, s8, s9, l9, yq, yp, s87, wk, e1, e2, aR, w8, w8', wx, wy, wm, rF];exact ⟨b2 - (mid + 1), by omega, mid + 1, b2, lim, _, ap, L, hP2, by simp [s0], by simp, by simp [s2], by simp [s3], by simp; rfl, by simp, by simp [hn], by omega, g2, pe, rfl⟩
   ·obtain ⟨r, T2, ⟨rfl, L, r1, r2, r3, r4⟩, e2⟩ := (ih T1 d4 (mid + 1) b2 lim (by omega) (by omega) t1 g2 (by omega) g5).ex
    obtain ⟨h1, h2⟩ := g7 L r1 r2;have hP2 : Pd S T2 v d L a b a2 mid := ⟨r3, (hP.bm.trans t2).trans r4, r1.1.trans (g3.trans hP.size), h1, fun R hR hs => by
     obtain ⟨q1, q2⟩ := h2 R hR hs;exact hP.fin R q1 q2⟩
    simp at e2;simp [aP, s0, s1, s2, s3, s8, s9, l9, yq, yp, s87, wk, e1, e2, aR, w8, w8', wx, wy, wm, rF];exact ⟨mid - a2, by omega, a2, mid, lim, _, ap, L, hP2, by simp [s0], by simp [s1], by simp, by simp [s3], by simp; rfl, by simp, by simp [hn], ha2, g1, by omega, rfl⟩
end
theorem yh {S : AS} {v : AV} {d : Array Nat} (h : aQ S v d) (fi : d.size ≤ 1048576) : ai C0 36 [v] S fun r T => r = .tuple [] ∧ ∃ d', Sort.PermIn 0 d.size d d' ∧ Sort.SortedIn aT 0 d.size d' ∧ aQ T v d' ∧ dc v S T := by
 have u1 := h.sl;have u2 := h.len;have wk := h.ok;have hw : IntKind.u64.wrap (d.size : Int) = (d.size : Int) := by simp [IntKind.wrap, IntKind.bits, IntKind.signed]; omega
 obtain ⟨r, T, ⟨rfl, d', r1, r2, r3, r4⟩, e⟩ := (pdq_sort (d.size + 1) S d 0 d.size (ua d.size : Nat) fi (by omega) h (Nat.zero_le _) (Nat.le_refl _) (Or.inl rfl)).ex
 refine cv (dm _) (dn _ rfl) fn36 rfl ok36 (by simp) fun F hn s0 => ?_
 simp at e;simp [s0, u1, u2, wk, hw, Cw (x := d.size) (by omega), aR, e]
 exact ⟨d', r1, r2, r3, r4⟩
attribute [local simp] callV_yld zp Dy zq
def cA : Code := Code.region 2
      #[{ dst := some 5, op := Op.assign (Operand.tmp 7), type := 30, pos := "iter.go:51", after := #[],
          guard := none }]
      false
def cB : Code := (Code.block 1
      (Code.region 3
       #[{ dst := some 8, op := Op.load 38 (Operand.tmp 2), type := 38, pos := "iter.go:52", after := #[],
           guard := none },
        { dst := some 9, op := Op.move (Operand.tmp 5), type := 30, pos := "iter.go:52", after := #[],
          guard := none },
        { dst := some 10, op := Op.buildSlice 38 1 #[(0, Operand.tmp 9)], type := 38, pos := "iter.go:52",
          after := #[{ on := 1, ground := Ground.data }], guard := none },
        { dst := some 11,
          op :=
           Op.call
            { callee := Callee.builtin Builtin.append, args := #[Operand.tmp 8, Operand.tmp 10],
              argTypes := #[38, 38] },
          type := 38, pos := "iter.go:52",
          after := #[{ on := 0, ground := Ground.data }, { on := 2, ground := Ground.data }], guard := none },
        { dst := none, op := Op.store 38 (Operand.tmp 2) (Operand.tmp 11), type := 0, pos := "iter.go:52",
          after :=
           #[{ on := 3, ground := Ground.data }, { on := 3, ground := Ground.chain },
             { on := 0, ground := Ground.phase }, { on := 1, ground := Ground.phase },
             { on := 2, ground := Ground.phase }, { on := 3, ground := Ground.phase }],
          guard := none }]
       false))
def gQ (e : aX) : Nat := match e.key with | .int _ (.ofNat n) => n | _ => 0
def kv (L : List aX) : List AV := L.map fun e => AV.int .u64 (gQ e : Int)
def fz (B : Nat) (L : List aX) : AV := match L.length with | 0 => .aH | k + 1 => .slice B k 0 (k + 1) (k + 1) 1 none
def ov (S : AS) (B : Nat) (L : List aX) : Prop := L = [] ∨ S.h.get B = some (.row (kv L) 0 (L.length - 1) false 30)
section
variable {S : AS}
theorem append_un {cx : Cx} {S : AS} {t u : Nat} {ts : List TypeId} {p : Nat × Nat × Nat} {v x : AV} {d : TypeDesc} {z : Nat} (h : kP cx t = some p) (hu : aZ cx u = some d) (hd : rY d = true) (hz : p.2.1 = z + 1) :
  aJ cx S .append (t :: u :: ts) [v, x] = b8 (bc S p.1 (z + 1) p.2.2 v x) 4 := by
 obtain ⟨ht, hs, hb, hz', hp⟩ := fF h;obtain ⟨e, sz, bs⟩ := p;simp only at ht hs hb hz' hz ⊢;subst hz;show (match aZ cx t, aZ cx u with
   | some (.slice e), some (.int _) => b8 (ta cx S e v x) 3
   | some (.slice e), some _ => match aw cx e, bytesOf cx e with
    | some (Nat.succ z), some bs => cond (eZ cx e (Nat.succ z)) (b8 (bc S e (Nat.succ z) bs v x) 4) (AR.err 13)
    | _, _ => AR.err 5
   | _, _ => AR.err 6) = _
 rw [ht, hu]
 cases d <;> first | (cases hd; done) | simp only [hs, hb, hz', cond_true]
theorem colV_cells {B : Nat} {L : List aX} : cellsOf (fz B L) = some [fz B L] := by
 unfold fz
 split <;> rfl
theorem app_col {B : Nat} {L : List aX} {e : aX} {id : Nat} (hc : ov S B L) (h0 : L = [] → B = S.next) (hr : S.h.get id = some (.row [.int .u64 (gQ e : Int)] 0 0 false 30)) (hn : L.length < 1048576) :
  ∃ T, aJ C0 S .append [38, 38] [fz B L, .slice id 0 0 1 1 1 (some 1)] = .val (fz B (L ++ [e])) T ∧ ov T B (L ++ [e]) ∧ (∀ i, i ≠ B → T.h.get i = S.h.get i) ∧ S.next ≤ T.next ∧ (L = [] → T.next = S.next + 1) := by
 have wY : ∀ v x, aJ C0 S .append [38, 38] [v, x] = b8 (bc S 30 1 8 v x) 4 := fun v x => append_un (cx := C0) (ts := []) (p := (30, 1, 8)) (z := 0) st38 un38 rfl rfl
 have yT : rd S id 0 0 1 1 = some [.int .u64 (gQ e : Int)] := by rw [fV, hr, dQ]; simp
 have pD : taken S 1 (.slice id 0 0 1 1 1 (some 1)) = some (1, [.int .u64 (gQ e : Int)]) := by
  show (match rd S id 0 0 (Nat.mul 1 1) 1 with | some l => some (1, l) | none => none) = _
  rw [show Nat.mul 1 1 = 1 from rfl, yT]
 cases L with
 | nil =>
  obtain rfl := h0 rfl;refine ⟨⟨S.h.set S.next (.row [.int .u64 (gQ e : Int)] 0 0 false 30), S.next + 1⟩, ?_, .inr (aa _ _ _), fun i hi => ae _ _ hi, Nat.le_succ _, fun _ => rfl⟩
  rw [wY];have : bc S 30 1 8 (fz S.next []) (.slice id 0 0 1 1 1 (some 1)) = some (grown S 30 1 1 [.int .u64 (gQ e : Int)]) := by
   unfold bc;rw [pD];show cond (fits 1 8) _ _ = _;rw [show fits 1 8 = true from by decide]
   rfl
  rw [this]
  rfl
 | cons a L =>
  have fw : S.h.get B = some (.row (kv (a :: L)) 0 L.length false 30) := by
   rcases hc with h | h
   ·cases h
   ·exact h
  have hlk : (kv (a :: L)).length = L.length + 1 := by simp [kv]
  have hkk : kv (a :: L) ++ [.int .u64 (gQ e : Int)] = kv (a :: L ++ [e]) := by simp [kv]
  refine ⟨⟨S.h.set B (.row (kv (a :: L ++ [e])) 0 (L.length + 1) false 30), S.next⟩, ?_, .inr ?_, fun i hi => ae _ _ hi, Nat.le_refl _, fun h => by cases h⟩
  ·rw [wY]
   have hf : fits (L.length + 1 + 1) 8 = true := by
    simp only [List.length_cons] at hn;unfold fits;simp only [cg, Bool.and_eq_true, decide_eq_true_eq];refine ⟨by omega, ?_⟩
    show (L.length + 1 + 1) * 8 ≤ _;omega
   have : bc S 30 1 8 (.slice B L.length 0 (L.length + 1) (L.length + 1) 1 none) (.slice id 0 0 1 1 1 (some 1)) = some (.slice B (L.length + 1) 0 (L.length + 1 + 1) (L.length + 1 + 1) 1 none, ⟨S.h.set B (.row (kv (a :: L ++ [e])) 0 (L.length + 1) false 30), S.next⟩) := by
    unfold bc;rw [pD];simp only [aK, decide_true, cond_true, fw, cg, Nat.zero_le, Nat.le_refl, Bool.and_self, aC, Nat.add_eq, hf, Bool.not_true, Bool.or_self, cond_false, aU, hlk, Nat.mul_eq, Nat.mul_one, bd, hkk]
   show b8 (bc S 30 1 8 (.slice B L.length 0 (L.length + 1) (L.length + 1) 1 none) _) 4 = _;rw [this];show AR.val _ _ = _;unfold fz;simp
  ·show (S.h.set B _).get B = _
   rw [aa];simp
theorem round120 {lp xb B : Nat} {F : Fr} {L : List aX} {e : aX} {K : AV → AS → Prop} (hlp : S.h.get lp = some (.dS (.loop .ready none F #[7] cA cB))) (hF : sl F 2 = .ptr xb 0 0 1) (hn : F.n = 13)
  (hxb : S.h.get xb = some (.row [fz B L] 0 0 false 38)) (hc : ov S B L) (h0 : L = [] → B = S.next + 1) (h1 : L ≠ [] → B < S.next) (hx : xb < S.next) (hl : lp < S.next) (hlx : lp ≠ xb) (hBx : B ≠ xb) (hBl : B ≠ lp) (hlen : L.length < 1048576)
  (hK : ∀ T, T.h.get lp = some (.dS (.loop .ready none F #[7] cA cB)) → T.h.get xb = some (.row [fz B (L ++ [e])] 0 0 false 38) → ov T B (L ++ [e]) → B < T.next → S.next ≤ T.next → (∀ id, id < S.next → id ≠ lp → id ≠ xb → id ≠ B → T.h.get id = S.h.get id) → K (.bool true) T) :
  oo C0 lp [.int .u64 (gQ e : Int)] S K := by
 refine roundE_of (F1 := up ⟨F.t, F.n, []⟩ (some 7) (.int .u64 (gQ e : Int))) hlp ?_ (by rw [mZ]; show codeOk C0 F.n cA = true; rw [hn]; kernel_rfl) (by rw [mZ]; show codeOk C0 F.n cB = true; rw [hn]; kernel_rfl) ?_
 ·show zW ⟨F.t, F.n, []⟩ [7] [_] = _
  unfold zW;simp [iL, hn, up, show Nat.blt 7 13 = true from rfl]
 obtain ⟨G, hG⟩ : ∃ G : Fr, G = ⟨F.t, F.n, []⟩ := ⟨_, rfl⟩;have g2 : sl G 2 = .ptr xb 0 0 1 := by rw [hG]; exact hF
 rw [← hG];unfold cA;simp;refine ⟨none, F, cA, cB, hlp, ?_⟩;obtain ⟨S0, hS0⟩ : ∃ S0 : AS, S0 = jT S lp (.loop .busy none F #[7] cA cB) := ⟨_, rfl⟩;rw [← hS0];have n0 : S0.next = S.next := by rw [hS0]; rfl
 have lp0 : S0.h.get lp = some (.dS (.loop .busy none F #[7] cA cB)) := by rw [hS0]; exact aa _ _ _
 have o0 : ∀ id, id ≠ lp → S0.h.get id = S.h.get id := fun id h => by rw [hS0]; exact ae _ _ h
 clear hS0;have xb0 := (o0 xb (Ne.symm hlx)).trans hxb;obtain ⟨S1, fp⟩ : ∃ S1 : AS, S1 = ⟨S0.h.set S0.next (.row [.int .u64 (gQ e : Int)] 0 0 false 30), S0.next + 1⟩ := ⟨_, rfl⟩;have n1 : S1.next = S.next + 1 := by rw [fp, ← n0]
 have r1 : S1.h.get S0.next = some (.row [.int .u64 (gQ e : Int)] 0 0 false 30) := by rw [fp]; exact aa _ _ _
 have o1 : ∀ id, id ≠ S.next → S1.h.get id = S0.h.get id := fun id h => by rw [fp]; exact ae _ _ (by rw [n0]; exact h)
 have bS1 := fp.symm;clear fp;have yX : ov S1 B L := by
  rcases hc with h | h
  ·exact .inl h
  ·by_cases hL : L = []
   ·exact .inl hL
   ·exact .inr (by have := h1 hL; rw [o1 _ (by omega), o0 _ hBl]; exact h)
 obtain ⟨S2, e2, c2, o2, n2, hnx⟩ := app_col (e := e) yX (fun h => by rw [n1]; exact h0 h) r1 hlen
 have xb2 : S2.h.get xb = some (.row [fz B L] 0 0 false 38) := by rw [o2 _ (Ne.symm hBx), o1 _ (by omega)]; exact xb0
 have hfr : ∀ F : Fr, sl F 9 = .int .u64 (gQ e : Int) → aI C0 F S0.next (.buildSlice 38 1 #[(0, .tmp 9)]) = some (.slice S0.next 0 0 1 1 1 (some 1), .row [.int .u64 (gQ e : Int)] 0 0 false 30) := by
  intro F h;exact pZ st38 rfl (by rw [ay, h]; rfl)
 conv => arg 2; unfold cB
 simp [g2, xb0, hfr, bS1, e2, xb2, colV_cells];refine ⟨.busy, none, F, #[7], cA, cB, ?_, hK _ ?_ ?_ ?_ ?_ ?_ ?_⟩
 ·rw [if_neg hlx, o2 _ (Ne.symm hBl), o1 _ (by omega)]; exact lp0
 ·exact aa _ _ _
 ·show ((S2.h.set xb _).set lp _).get xb = _
  rw [ae _ _ (Ne.symm hlx), aa]
 ·rcases c2 with h | h
  ·exact .inl h
  ·refine .inr ?_
   show ((S2.h.set xb _).set lp _).get B = _;rw [ae _ _ hBl, ae _ _ hBx]; exact h
 ·show B < S2.next
  by_cases hL : L = []
  ·have := hnx hL; have := h0 hL; omega
  ·have := h1 hL; omega
 ·show S.next ≤ S2.next
  omega
 ·intro id q1 q2 q3 q4
  show ((S2.h.set xb _).set lp _).get id = _;rw [ae _ _ q2, ae _ _ q3, o2 _ q4, o1 _ (by omega), o0 _ q2]
def keysH (P : AS) (F : Fr) (lp xb it mi clock B : Nat) (es : List aX) (k : Nat) (F' : Fr) (S' : AS) : Prop :=
 ∃ L R : List aX, (L ++ R).Perm es ∧ S'.h.get it = some (.dS (.iter (some mi) clock (L.map (·.born)).reverse clock)) ∧ S'.h.get lp = some (.dS (.loop .ready none F #[7] cA cB)) ∧ S'.h.get xb = some (.row [fz B L] 0 0 false 38) ∧ ov S' B L ∧
  (L = [] → S'.next = P.next + 1) ∧ (L ≠ [] → B < S'.next) ∧ P.next + 1 ≤ S'.next ∧ (∀ id, id < P.next → id ≠ lp → id ≠ xb → S'.h.get id = P.h.get id) ∧ sl F' 0 = .obj .yld lp ∧ sl F' 5 = .ptr it 0 0 0 ∧ F'.n = 14 ∧ F'.ds = [] ∧ k = R.length
set_option maxRecDepth 20000 in
set_option maxHeartbeats 1000000 in
theorem keys79 {P : AS} {F : Fr} {bx mi clock lp xb : Nat} {es : List aX} (hb : P.h.get bx = some (.row [.map mi] 0 0 false 70)) (hm : P.h.get mi = some (.map es clock)) (hw : mW es clock) (hk : ∀ e, e ∈ es → e.key = .int .u64 (gQ e : Int))
  (hbl : bx < P.next) (qW : mi < P.next) (hxl : xb < P.next) (hll : lp < P.next) (hlx : lp ≠ xb) (hlm : mi ≠ lp) (hxm : mi ≠ xb) (hF : sl F 2 = .ptr xb 0 0 1) (hFn : F.n = 13)
  (hlp : P.h.get lp = some (.dS (.loop .ready none F #[7] cA cB))) (hxb : P.h.get xb = some (.row [.aH] 0 0 false 38)) (hn : es.length ≤ 1048576) :
  cQ C0 79 [.obj .yld lp, .ptr bx 0 0 1] P fun v T => ∃ L : List aX, L.Perm es ∧ T.h.get lp = some (.dS (.loop .ready none F #[7] cA cB)) ∧ T.h.get xb = some (.row [fz (P.next + 2) L] 0 0 false 38) ∧ ov T (P.next + 2) L ∧
   (L ≠ [] → P.next + 2 < T.next) ∧ P.next + 1 ≤ T.next ∧ ∀ id, id < P.next → id ≠ lp → id ≠ xb → T.h.get id = P.h.get id := by
 have un70 : aZ C0 70 = some (.map 30 33) := by kernel_rfl
 have hn79 : Tryz.f79.ntmps = 14 := by kernel_rfl
 refine sQ (dm _) (dn _ rfl) fn79 rfl ok79 (by simp) fun F1 df hd hs => ?_
 rw [hn79] at df;have s0 := hs 0;have s1 := hs 1;clear hs;simp only [List.getElem?_cons_zero, List.getElem?_cons_succ, Option.getD_some] at s0 s1;have e0 := vd (cx := C0) (S := P) un70 hm;simp [s0, s1, hb, e0];refine qU (keysH P F lp xb P.next mi clock (P.next + 2) es) es.length ⟨[], es, List.Perm.refl _, aa _ _ _, (ae _ _ (by omega)).trans hlp, (ae _ _ (by omega)).trans hxb, .inl rfl, fun _ => rfl, fun h => absurd rfl h, Nat.le_refl _,
  fun id h1 _ _ => ae _ _ (by omega), by simp [s0], by simp, by simp [df], by simp [eB, hd], rfl⟩ ?_
 rintro k F' S' hF' ⟨L, R, hp, hit, hlp', hxb', hc, h0, h1, hnx, vN, t0, t5, fg, vS, hkR⟩
 clear hF' s0 s1 e0;have eH : S'.h.get mi = some (.map es clock) := by rw [vN mi qW hlm hxm]; exact hm
 obtain ⟨bO, gS⟩ := tw (S := S') (id := P.next) (m := mi) (seen := (L.map (·.born)).reverse) hw
 have hnv := yI (l := 0) hit eH;have hpw : (L ++ R).Pairwise fun a b => a.born ≠ b.born := (hp.pairwise_iff (fun h => Ne.symm h)).2 hw.2
 simp [t5, hnv, yr];refine ⟨bO, fun v T hy => ?_⟩
 rcases gS _ hy with ⟨hye, hend⟩ | ⟨e, he, hes, hye⟩
 ·cases hye
  have hR : R = [] := by
   cases R with
   | nil => rfl
   | cons r R =>
    exfalso
    have hr := hend r (hp.mem_iff.1 (by simp))
    simp only [List.mem_reverse, List.mem_map] at hr;obtain ⟨z, hz, hzr⟩ := hr;exact (List.pairwise_append.1 hpw).2.2 z hz r (List.mem_cons_self ..) hzr
  subst hR;rw [List.append_nil] at hp;simp;show mu C0 Tryz.f79 _ _ (up (up F' _ _) _ _).ds S';rw [eB, eB, vS];exact ⟨rfl, L, hp, hlp', hxb', hc, fun h => h1 h, hnx, vN⟩
 ·unfold Am.tj at hye
  cases hye
  obtain ⟨R1, R2, rfl⟩ : ∃ R1 R2, R = R1 ++ e :: R2 := List.append_of_mem (by
   rcases List.mem_append.1 (hp.mem_iff.2 he) with h | h
   ·exact absurd (List.mem_reverse.2 (List.mem_map.2 ⟨e, h, rfl⟩)) hes
   ·exact h)
  obtain ⟨S2, lU⟩ : ∃ S2 : AS, S2 = ⟨S'.h.set P.next (.dS (.iter (some mi) clock (e.born :: (L.map (·.born)).reverse) clock)), S'.next⟩ := ⟨_, rfl⟩
  have n2 : S2.next = S'.next := by rw [lU]
  have i2 : S2.h.get P.next = some (.dS (.iter (some mi) clock (e.born :: (L.map (·.born)).reverse) clock)) := by rw [lU]; exact aa _ _ _
  have o2 : ∀ id, id ≠ P.next → S2.h.get id = S'.h.get id := fun id h => by rw [lU]; exact ae _ _ h
  have bS2 := lU.symm;clear lU;have hev := v9 (l := 0) i2 ((o2 mi (by omega)).trans eH) hw.2 he rfl
  have hke := hk e he;have hlen : L.length < 1048576 := by
   have := hp.length_eq;simp at this;omega
  have yW : ov S2 (P.next + 2) L := by
   rcases hc with h | h
   ·exact .inl h
   ·exact .inr ((o2 _ (by omega)).trans h)
  simp [t0, t5, bS2, hev, hke];refine round120 (B := P.next + 2) ((o2 lp (by omega)).trans hlp') hF hFn ((o2 xb (by omega)).trans hxb') yW (fun h => by rw [n2, h0 h]) (fun h => by rw [n2]; exact h1 h) (by omega) (by omega) hlx (by omega) (by omega) hlen ?_
  intro T g1 g2 g3 g4 g5 g6;simp [t0, t5];refine ⟨(R1 ++ R2).length, by rw [hkR]; simp, L ++ [e], R1 ++ R2, ?_, ?_, g1, g2, g3, fun h => by simp at h, fun _ => g4, by omega, fun id q1 q2 q3 => ?_, by simp [t0], by simp [t5], by simp [fg], by simp [eB, vS], rfl⟩
  ·refine List.Perm.trans ?_ hp
   simp only [List.append_assoc];refine List.Perm.append_left L ?_;show (e :: (R1 ++ R2)).Perm _;exact List.perm_middle.symm
  ·rw [g6 _ (by omega) (by omega) (by omega) (by omega), i2]
   simp
  ·rw [g6 id (by omega) q2 q3 (by omega), o2 id (by omega)]
   exact vN id q1 q2 q3
set_option maxRecDepth 20000 in
set_option maxHeartbeats 1000000 in
theorem append120 {bx mi clock : Nat} {es : List aX} (hb : S.h.get bx = some (.row [.map mi] 0 0 false 70)) (hm : S.h.get mi = some (.map es clock)) (hw : mW es clock) (hk : ∀ e, e ∈ es → e.key = .int .u64 (gQ e : Int))
  (hl : bx < S.next) (qW : mi < S.next) (hn : es.length ≤ 1048576) :
  cQ C0 120 [.aH, .func (.func 79) [] [.ptr bx 0 0 1]] S fun v T => ∃ L : List aX, L.Perm es ∧ v = fz (S.next + 5) L ∧ ov T (S.next + 5) L ∧ Sub S T ∧ (L ≠ [] → S.next + 5 < T.next) := by
 refine sQ (dm _) (dn _ rfl) fn120 rfl ok120 (by simp) fun F df hd hs => ?_
 have s0 := hs 0;have s1 := hs 1;clear hs;simp only [List.getElem?_cons_zero, List.getElem?_cons_succ, Option.getD_some] at s0 s1;have hn120 : Tryz.f120.ntmps = 13 := by kernel_rfl
 rw [hn120] at df;simp [s0, s1];obtain ⟨G, hG⟩ : ∃ G : Fr, G = up (up (up F (some 2) (.ptr S.next 0 0 1)) (some 4) .aH) (some 6) (.func (.func 79) [] [.ptr bx 0 0 1]) := ⟨_, rfl⟩;have g2 : sl G 2 = .ptr S.next 0 0 1 := by rw [hG]; simp
 have g6 : eval G (.tmp 6) = .func (.func 79) [] [.ptr bx 0 0 1] := by rw [hG]; simp
 have gn : G.n = 13 := by rw [hG]; simp [df]
 have gd : G.ds = [] := by rw [hG]; simp [eB, hd]
 rw [← hG];clear hG s0 s1;show Bh C0 (.tmp 6) #[7] cA cB G _ _;refine ⟨by kernel_rfl, 79, [], [.ptr bx 0 0 1], g6, ?_⟩
 obtain ⟨P, hP⟩ : ∃ P : AS, P = ⟨((S.h.set S.next (.row [.aH] 0 0 false 38)).set (S.next + 1) (.dS (.wh true))).set (S.next + 2) (.dS (.loop .ready none G #[7] cA cB)), S.next + 3⟩ := ⟨_, rfl⟩;have nP : P.next = S.next + 3 := by rw [hP]
 have pl : P.h.get (S.next + 2) = some (.dS (.loop .ready none G #[7] cA cB)) := by rw [hP]; exact aa _ _ _
 have pd : P.h.get (S.next + 1) = some (.dS (.wh true)) := by rw [hP]; exact (ae _ _ (by omega)).trans (aa _ _ _)
 have px : P.h.get S.next = some (.row [.aH] 0 0 false 38) := by rw [hP]; exact ((ae _ _ (by omega)).trans (ae _ _ (by omega))).trans (aa _ _ _)
 have po : ∀ id, id < S.next → P.h.get id = S.h.get id := fun id h => by rw [hP]; exact ((ae _ _ (by omega)).trans (ae _ _ (by omega))).trans (ae _ _ (by omega))
 have bP : (⟨((S.h.set S.next (.row [.aH] 0 0 false 38)).set (S.next + 1) (.dS (.wh true))).set (S.next + 2) (.dS (.loop .ready none G #[7] cA cB)), S.next + 3⟩ : AS) = P := hP.symm;clear hP;show cQ C0 79 [.obj .yld (S.next + 2), .ptr bx 0 0 1] (⟨((S.h.set S.next (.row [.aH] 0 0 false 38)).set (S.next + 1) (.dS (.wh true))).set (S.next + 2) (.dS (.loop .ready none G #[7] cA cB)), S.next + 3⟩ : AS) _;rw [bP];refine cQ.mono (keys79 (F := G) (xb := S.next) ((po _ hl).trans hb) ((po _ qW).trans hm) hw hk (by omega) (by omega) (by omega) (by omega) (by omega) (by omega) (by omega) g2 gn pl px hn) ?_
 rintro v T ⟨L, hp, q1, q2, q3, q4, q5, q6⟩
 rw [nP] at q2 q3 q4 q5 q6;refine ⟨.ready, G, #[7], cA, cB, by simp, q1, ?_⟩
 generalize hH : (⟨G.t, G.n, _⟩ : Fr) = H;generalize hU : jT T _ _ = U;have h2 : sl H 2 = .ptr S.next 0 0 1 := by rw [← hH]; exact g2
 have vS : H.ds = [.mark (S.next + 1)] := by rw [← hH, gd]
 have uo : ∀ id, id ≠ S.next + 2 → U.h.get id = T.h.get id := fun id h => by rw [← hU]; exact ae _ _ h
 have un : U.next = T.next := by rw [← hU]; rfl
 clear hH hU;have ux := (uo S.next (by omega)).trans q2
 have ud : U.h.get (S.next + 1) = some (.dS (.wh true)) := by rw [uo _ (by omega), q6 _ (by omega) (by omega) (by omega)]; exact pd
 simp [h2, ux];show mu C0 Tryz.f120 _ _ (up (up H _ _) _ _).ds U;rw [eB, eB, vS];refine ⟨ud, ?_⟩;have sx : jD C0 (up (up H (some 12) (fz (S.next + 5) L)) (some 4) (fz (S.next + 5) L)) (jT U (S.next + 1) (.wh false)) Tryz.f120.results.toList = some [fz (S.next + 5) L] := by
  rw [show Tryz.f120.results.toList = [.tmp 4] from by kernel_rfl, lg, lh]
  simp
 show uj (Option.map _ _) _ _;rw [sx];have hnp : bz (fz (S.next + 5) L) = false := by unfold fz; split <;> rfl
 refine ⟨hnp, L, hp, rfl, ?_, ⟨fun id bY => ?_, ?_⟩, fun h => ?_⟩
 ·rcases q3 with h | h
  ·exact .inl h
  ·refine .inr ?_
   show (U.h.set (S.next + 1) _).get _ = _;rw [ae _ _ (by omega), uo _ (by omega)]
   exact h
 ·show (U.h.set (S.next + 1) _).get _ = _
  rw [ae _ _ (by omega), uo _ (by omega), q6 _ (by omega) (by omega) (by omega)]
  exact po _ bY
 ·show S.next ≤ U.next
  omega
 ·show S.next + 5 < U.next
  have := q4 h;omega
theorem colAt_num {T : AS} {B : Nat} {L : List aX} (h : ov T B L) (hn : L ≠ [] → B < T.next) : aQ T (fz B L) (L.map gQ).toArray := by
 have hk : cI (L.map gQ).toArray.toList = kv L := by simp [cI, kv, Function.comp_def]
 cases L with
 | nil => exact ⟨Gw.nil, fun id cells low top frz ty hb hr => by simp [fz, cJ] at hb⟩
 | cons e L =>
  have fw : T.h.get B = some (.row (kv (e :: L)) 0 L.length false 30) := by
   rcases h with h | h
   ·cases h
   ·exact h
  have hlk : (kv (e :: L)).length = L.length + 1 := by simp [kv]
  refine ⟨?_, fun id cells low top frz ty hb hr => ?_⟩
  ·rw [hk]
   exact Own.gw (lo := 0) (.inr ⟨B, L.length, 0, L.length + 1, by simp [fz], Nat.zero_le _, hn (by simp), fw, Nat.zero_le _, by rw [hlk]; simp⟩)
  ·have hb' : B + 1 = id + 1 := by simpa [fz, cJ] using hb
   obtain rfl : B = id := by omega
   rw [fw] at hr
   cases hr
   rw [hlk]; simp
theorem perm_of {d d' : Array Nat} (h : Sort.PermIn 0 d.size d d') : d'.toList.Perm d.toList := by
 obtain ⟨h1, _, h3⟩ := h;have e1 : d.extract 0 d.size = d := by simp
 have e2 : d'.extract 0 d.size = d' := by rw [← h1]; simp
 rw [e1, e2] at h3;exact h3
theorem yg {d : Array Nat} (h : Sort.SortedIn aT 0 d.size d) : d.toList.Pairwise (· ≤ ·) := by
 rw [List.pairwise_iff_getElem];intro i j hi hj fW;simp only [Array.length_toList] at hi hj;have := h i j (Nat.zero_le _) fW hj;rw [getElem!_pos d i hi, getElem!_pos d j hj] at this;simp only [aT, decide_eq_false_iff_not] at this;simp only [Array.getElem_toList];omega
theorem collect78 {bx mi clock : Nat} {es : List aX} (hb : S.h.get bx = some (.row [.map mi] 0 0 false 70)) (hm : S.h.get mi = some (.map es clock)) (hw : mW es clock) (hk : ∀ e, e ∈ es → e.key = .int .u64 (gQ e : Int))
  (hl : bx < S.next) (qW : mi < S.next) (hn : es.length ≤ 1048576) :
  cQ C0 78 [.func (.func 79) [] [.ptr bx 0 0 1]] S fun v T => ∃ L : List aX, L.Perm es ∧ v = fz (S.next + 5) L ∧ ov T (S.next + 5) L ∧ Sub S T ∧ (L ≠ [] → S.next + 5 < T.next) := by
 refine sQ (dm _) (dn _ rfl) fn78 rfl ok78 (by simp) fun F df hd hs => ?_
 have s0 := hs 0;clear hs;simp only [List.getElem?_cons_zero, Option.getD_some] at s0;simp [s0, aR];refine cQ.mono (append120 hb hm hw hk hl qW hn) ?_
 rintro v T ⟨L, h1, rfl, h2⟩
 simp;show mu C0 Tryz.f78 _ _ (Fr.ds _) T;simp only [eB, hd];have sx : ∀ F : Fr, sl F 2 = fz (S.next + 5) L → jD C0 F T Tryz.f78.results.toList = some [fz (S.next + 5) L] := by
  intro F h;rw [show Tryz.f78.results.toList = [.tmp 2] from by kernel_rfl, lg, lh, h]
  rfl
 show uj (Option.map _ _) _ _;rw [sx _ (by simp)]
 have hnp : bz (fz (S.next + 5) L) = false := by unfold fz; split <;> rfl
 exact ⟨hnp, L, h1, rfl, h2⟩
abbrev As : Am.Ask := { eqs := [50, 65], exts := [(132, .iS)], aV := [(14, iI true)] }
abbrev Cs : Am.Cx := Am.iF Tryz.prog As
theorem pleS : uP C0.aV Cs.aV := by
 have e0 : C0.aV = ((((T.leaf.set 14 (iI true)).set 31 hole).set 34 hole).set 46 hole).set 52 hole := rfl;have e1 : Cs.aV = T.leaf.set 14 (iI true) := rfl;rw [e0, e1];exact ((((uP.refl _).lose 31).lose 34).lose 46).lose 52
theorem overS {f : FuncId} {vs : List AV} {S : AS} {Q : AV → AS → Prop} (h : cQ C0 f vs S Q) : cQ Cs f vs S Q :=
 cQ.to (P := Tryz.prog) (A := A0) (A' := As) rfl rfl rfl rfl pleS h
theorem sfn46 : Cs.fns.get 46 = some Tryz.f46 := by kernel_rfl
theorem sok46 : codeOk Cs Tryz.f46.ntmps (Tryz.f46.body.getD .skip) = true := by kernel_rfl
theorem sex (f : Nat) (h : (f == 132) = false) : Cs.exts.get f = none := by
 have h1 : ¬ f = 132 := by simpa using h
 show ((T.leaf : T Xf).set 132 .iS).get f = none;rw [ae _ _ h1]; exact da f
theorem spr (f : Nat) (h : (f == 14) = false) : Cs.aV.get f = none := by
 have h1 : ¬ f = 14 := by simpa using h
 show ((T.leaf : T (List AV → AS → Option (AV × AS))).set 14 (iI true)).get f = none;rw [ae _ _ h1]; exact da f
theorem spu (f : Nat) : Cs.eh.get f = none := da f
theorem sorted46 {bx mi clock : Nat} {es : List aX} (hb : S.h.get bx = some (.row [.map mi] 0 0 false 70)) (hm : S.h.get mi = some (.map es clock)) (hw : mW es clock) (hk : ∀ e, e ∈ es → e.key = .int .u64 (gQ e : Int))
  (hl : bx < S.next) (qW : mi < S.next) (hn : es.length ≤ 1048576) :
  cQ Cs 46 [.func (.func 79) [] [.ptr bx 0 0 1]] S fun v T => ∃ d : Array Nat, d.toList.Perm (es.map gQ) ∧ d.toList.Pairwise (· ≤ ·) ∧ Sub S T ∧
   ((d.size = 0 ∧ v = .aH) ∨ (0 < d.size ∧ v = .slice (S.next + 5) (d.size - 1) 0 d.size d.size 1 none ∧ (∃ low, low ≤ d.size - 1 ∧ T.h.get (S.next + 5) = some (.row (cI d.toList) low (d.size - 1) false 30)) ∧ S.next + 5 < T.next)) := by
 refine sQ (spu _) (spr _ rfl) sfn46 rfl sok46 (by simp) fun F df hd hs => ?_
 have s0 := hs 0;clear hs;simp only [List.getElem?_cons_zero, Option.getD_some] at s0;simp [s0, sex];refine cQ.mono (overS <| collect78 hb hm hw hk hl qW hn) ?_
 rintro v T ⟨L, h1, rfl, h2, h3, h4⟩
 have hLn : L.length ≤ 1048576 := by rw [h1.length_eq]; exact hn
 have hnum := colAt_num h2 h4;simp [sex];refine cQ.mono (overS (yh hnum (by simpa using hLn)).each) ?_
 rintro r T2 ⟨rfl, d', p1, p2, p3, p4⟩
 have fi : d'.size = L.length := by have := p1.1; simpa using this
 simp;show mu Cs Tryz.f46 _ _ (Fr.ds _) T2;simp only [eB, hd];have sx : ∀ F : Fr, sl F 2 = fz (S.next + 5) L → jD Cs F T2 Tryz.f46.results.toList = some [fz (S.next + 5) L] := by
  intro F h;rw [show Tryz.f46.results.toList = [.tmp 2] from by kernel_rfl, lg, lh, h]
  rfl
 show uj (Option.map _ _) _ _;rw [sx _ (by simp)]
 have hnp : bz (fz (S.next + 5) L) = false := by unfold fz; split <;> rfl
 have hperm := perm_of p1;have lU : Sub S T2 := ⟨fun id bY => by
  rw [p4.h id (by have := h3.next; omega) (by unfold fz; split <;> simp [cJ]; omega)]
  exact h3.h id bY, Nat.le_trans h3.next p4.next⟩
 refine ⟨hnp, d', hperm.trans (by simpa using h1.map gQ), yg (by rw [fi]; simpa using p2), lU, ?_⟩
 cases L with
 | nil => exact .inl ⟨Array.eq_empty_of_size_eq_zero fi, rfl⟩
 | cons e L =>
  refine .inr ⟨by rw [fi]; simp, by rw [fi]; rfl, ?_, ?_⟩
  ·obtain ⟨g1, g2⟩ := p3.gw
   rcases g2 with h | ⟨id, g, off, n, lim, cap, q1, q2, q3, cells, low, top, q4, q5, q6⟩
   ·simp [fz] at h
   ·have q1' : AV.slice (S.next + 5) L.length 0 (L.length + 1) (L.length + 1) 1 none = .slice id g off n lim 1 cap := q1
    cases q1'
    have pY := p3.whole (S.next + 5) cells low top false 30 (by simp [fz, cJ]) q4
    have hr := g1.rd;have j8 : cells = cI d'.toList := by
     simp only [fz, List.length_cons, nC, fV, q4, dQ] at hr;rw [if_pos (by omega)] at hr
     simp only [Option.some.injEq, List.drop_zero, Nat.mul_one] at hr;rw [← hr, List.take_of_length_le (by rw [pY, fi]; simp)]
    refine ⟨low, ?_, ?_⟩
    ·rw [fi]; simp; omega
    ·rw [q4, j8, fi, ← q6]; simp
  ·have := h4 (by simp)
   have := p4.next;omega
end
end Go.Proofs.YtfempihpphbgmaaGreat.idx
end
