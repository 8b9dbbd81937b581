/-
  formatBase10.
  FormatInt.
  Text and Parse.
  Parse.
-/
import Derived.Test.YtpglcebeldgeeaaDoorPartB
namespace Go.Proofs.YtpglcebeldgeeaaDoor.val
open Go Go.Am Go.Proofs.YtpglcebeldgeeaaDoor.laid
set_option linter.unusedVariables false
set_option linter.unusedSimpArgs false

def smallsL : List Nat := [48, 48, 48, 49, 48, 50, 48, 51, 48, 52, 48, 53, 48, 54, 48, 55, 48, 56, 48, 57, 49, 48, 49, 49, 49, 50, 49, 51, 49, 52, 49, 53, 49, 54, 49, 55, 49, 56, 49, 57, 50, 48, 50, 49, 50, 50, 50, 51, 50, 52, 50, 53, 50, 54, 50, 55, 50, 56, 50, 57, 51, 48, 51, 49, 51, 50, 51, 51, 51, 52, 51, 53, 51, 54, 51, 55, 51, 56, 51, 57, 52, 48, 52, 49, 52, 50, 52, 51, 52, 52, 52, 53, 52, 54, 52, 55, 52, 56, 52, 57, 53, 48, 53, 49, 53, 50, 53, 51, 53, 52, 53, 53, 53, 54, 53, 55, 53, 56, 53, 57, 54, 48, 54, 49, 54, 50, 54, 51, 54, 52, 54, 53, 54, 54, 54, 55, 54, 56, 54, 57, 55, 48, 55, 49, 55, 50, 55, 51, 55, 52, 55, 53, 55, 54, 55, 55, 55, 56, 55, 57, 56, 48, 56, 49, 56, 50, 56, 51, 56, 52, 56, 53, 56, 54, 56, 55, 56, 56, 56, 57, 57, 48, 57, 49, 57, 50, 57, 51, 57, 52, 57, 53, 57, 54, 57, 55, 57, 56, 57, 57]
theorem smalls_at : ∀ i : Fin 100, smallsL[i.val * 2 + 1]? = some (48 + i.val % 10) ∧ smallsL[i.val * 2]? = some (48 + i.val / 10) := by decide +kernel
theorem u32_of {y : Nat} (h : y < 4294967296) : IntKind.u32.wrap (y : Int) = (y : Int) := by simp [IntKind.wrap, IntKind.bits, IntKind.signed]; omega
/-- The array that the digits are laid into. -/
def RowB (S0 S : AS) (B : Nat) (c : List Nat) : Prop := S.h.get B = some (.row (bytA c) 0 0 false 108) ∧ (∀ id, id ≠ B → S.h.get id = S0.h.get id) ∧ S.next = S0.next ∧ c.length = 24
theorem RowB.put {S0 S : AS} {B : Nat} {c : List Nat} (g : RowB S0 S B c) {j b : Nat} (hj : j < 24) :
    ∃ T, (∀ (F : Fr) (dst : Option Tmp) (ty : TypeId) (pos : String) (af : Array Edge) (gd : Option (Nat × Bool)) (x y : Tmp), sl F x = .ptr B 0 j 24 → sl F y = .int .u8 (b : Int) → aop C0 F S ⟨dst, .store 5 (.tmp x) (.tmp y), ty, pos, af, gd⟩ = .val .undef T) ∧ RowB S0 T B (c.set j b) := by
  obtain ⟨g1, g2, g3, g4⟩ := g
  refine ⟨⟨S.h.set B (.row (bytA (c.set j b)) 0 0 false 108), S.next⟩, fun F dst ty pos af gd x y hx hy => ?_, get_set_same _ _ _, fun id h => (get_set_ne _ _ h).trans (g2 id h), g3, by rw [List.length_set]; exact g4⟩
  refine aop_store_at (v := .ptr B 0 j 24) (n := 1) (cs := [.int .u8 (b : Int)]) hx (by rw [eval_tmp, hy]; rfl) (by kernel_rfl) rfl ?_
  rw [wrV_ptr, wr_at, g1, wrO_row, if_pos ⟨rfl, by simp; omega, rfl⟩]
  rw [splice_lit (by rw [bytA_len]; omega)]
  congr 4
  rw [List.set_eq_take_append_cons_drop, if_pos (by omega)]
  simp [bytA]
/-- Two digits more. -/
theorem two {S0 S : AS} {B nd0 u nd v x : Nat} {c0 c : List Nat} {m1 m2 : Int} (g : RowB S0 S B c) (hF : FmtI c0 1 nd0 u nd v c) (h2 : 2 ≤ nd) (hx : x = v % 100) (hm1 : m1 = nd - 1) (hm2 : m2 = nd - 2) :
    ∃ (T1 T2 : AS) (c' : List Nat) (d1 d2 q1 q2 : Nat),
      (∀ (F : Fr) (S : AS) (dst : Option Tmp) (ty : TypeId) (pos : String) (af : Array Edge) (gd : Option (Nat × Bool)) (o : Operand) (y : Tmp), eval F o = .str smallsL → sl F y = .int .u32 ((x : Int) * 2 + 1) → aop C0 F S ⟨dst, .index 9 o (.tmp y), ty, pos, af, gd⟩ = .val (.int .u8 (d1 : Int)) S) ∧
      (∀ (F : Fr) (S : AS) (dst : Option Tmp) (ty : TypeId) (pos : String) (af : Array Edge) (gd : Option (Nat × Bool)) (o : Operand) (y : Tmp), eval F o = .str smallsL → sl F y = .int .u32 ((x : Int) * 2) → aop C0 F S ⟨dst, .index 9 o (.tmp y), ty, pos, af, gd⟩ = .val (.int .u8 (d2 : Int)) S) ∧
      (∀ (F : Fr) (S : AS) (dst : Option Tmp) (ty : TypeId) (pos : String) (af : Array Edge) (gd : Option (Nat × Bool)) (a b : Tmp), sl F a = .slice B 0 1 nd0 24 1 (some 23) → sl F b = .int .i64 m1 → aop C0 F S ⟨dst, .indexAddr 43 (.tmp a) (.tmp b), ty, pos, af, gd⟩ = .val (.ptr B 0 q1 24) S) ∧
      (∀ (F : Fr) (S : AS) (dst : Option Tmp) (ty : TypeId) (pos : String) (af : Array Edge) (gd : Option (Nat × Bool)) (a b : Tmp), sl F a = .slice B 0 1 nd0 24 1 (some 23) → sl F b = .int .i64 m2 → aop C0 F S ⟨dst, .indexAddr 43 (.tmp a) (.tmp b), ty, pos, af, gd⟩ = .val (.ptr B 0 q2 24) S) ∧
      (∀ (F : Fr) (dst : Option Tmp) (ty : TypeId) (pos : String) (af : Array Edge) (gd : Option (Nat × Bool)) (x y : Tmp), sl F x = .ptr B 0 q1 24 → sl F y = .int .u8 (d1 : Int) → aop C0 F S ⟨dst, .store 5 (.tmp x) (.tmp y), ty, pos, af, gd⟩ = .val .undef T1) ∧
      (∀ (F : Fr) (dst : Option Tmp) (ty : TypeId) (pos : String) (af : Array Edge) (gd : Option (Nat × Bool)) (x y : Tmp), sl F x = .ptr B 0 q2 24 → sl F y = .int .u8 (d2 : Int) → aop C0 F T1 ⟨dst, .store 5 (.tmp x) (.tmp y), ty, pos, af, gd⟩ = .val .undef T2) ∧
      RowB S0 T2 B c' ∧ FmtI c0 1 nd0 u (nd - 2) (v / 100) c' := by
  have hle := hF.le
  have hroom := hF.room
  have hlen := hF.len
  have hc24 := g.2.2.2
  obtain ⟨t1, t2⟩ := smalls_at ⟨x, by omega⟩
  obtain ⟨T1, e1, g1⟩ := g.put (j := 1 + (nd - 1)) (b := 48 + v % 100 % 10) (by omega)
  obtain ⟨T2, e2, g2⟩ := g1.put (j := 1 + (nd - 2)) (b := 48 + v % 100 / 10) (by omega)
  refine ⟨T1, T2, _, 48 + v % 100 % 10, 48 + v % 100 / 10, 1 + (nd - 1), 1 + (nd - 2), ?_, ?_, ?_, ?_, e1, e2, g2, hF.step2 h2⟩
  · intro F S dst ty pos af gd o y h1 h2
    exact aop_index_text (t := 9) (i := x * 2 + 1) h1 rfl ((eval_tmp F y).trans (h2.trans (by rw [show ((x : Int) * 2 + 1) = ((x * 2 + 1 : Nat) : Int) by omega]))) natOf_nat sT9 (by rw [← hx]; exact t1)
  · intro F S dst ty pos af gd o y h1 h2
    exact aop_index_text (t := 9) (i := x * 2) h1 rfl ((eval_tmp F y).trans (h2.trans (by rw [show ((x : Int) * 2) = ((x * 2 : Nat) : Int) by omega]))) natOf_nat sT9 (by rw [← hx]; exact t2)
  · intro F S dst ty pos af gd a b h1 h2
    exact (aop_indexAddr (i := nd - 1) ((eval_tmp F a).trans h1) un56 (by kernel_rfl) ((eval_tmp F b).trans h2) (by omega) (by omega)).trans (by rw [Nat.mul_one])
  · intro F S dst ty pos af gd a b h1 h2
    exact (aop_indexAddr (i := nd - 2) ((eval_tmp F a).trans h1) un56 (by kernel_rfl) ((eval_tmp F b).trans h2) (by omega) (by omega)).trans (by rw [Nat.mul_one])
theorem eight {v : Nat} (hv : v < 18446744073709551616) : ∃ d v' q r x8 x9 x10 x11 : Nat,
    ((v : Int).tmod 100000000 = (d : Int) ∧ (v : Int).tdiv 100000000 = (v' : Int) ∧ (d : Int).tdiv 10000 = (q : Int) ∧ (d : Int).tmod 10000 = (r : Int) ∧ (r : Int).tdiv 100 = (x8 : Int) ∧ (r : Int).tmod 100 = (x9 : Int) ∧ (q : Int).tdiv 100 = (x10 : Int) ∧ (q : Int).tmod 100 = (x11 : Int)) ∧
    (IntKind.u64.wrap (d : Int) = d ∧ IntKind.u64.wrap (v' : Int) = v' ∧ IntKind.u32.wrap (d : Int) = d ∧ IntKind.u32.wrap (q : Int) = q ∧ IntKind.u32.wrap (r : Int) = r ∧ IntKind.u32.wrap (x8 : Int) = x8 ∧ IntKind.u32.wrap (x9 : Int) = x9 ∧ IntKind.u32.wrap (x10 : Int) = x10 ∧ IntKind.u32.wrap (x11 : Int) = x11) ∧
    (x9 = v % 100 ∧ x8 = v / 100 % 100 ∧ x11 = v / 100 / 100 % 100 ∧ x10 = v / 100 / 100 / 100 % 100 ∧ v' = v / 100 / 100 / 100 / 100) ∧ (x8 < 100 ∧ x9 < 100 ∧ x10 < 100 ∧ x11 < 100 ∧ v' < 18446744073709551616) := by
  have k1 : v % 100000000 < 100000000 := Nat.mod_lt _ (by decide)
  have k2 : v / 100000000 < 18446744073709551616 := Nat.lt_of_le_of_lt (Nat.div_le_self _ _) hv
  have k3 : v % 100000000 / 10000 < 10000 := by omega
  have k4 : v % 100000000 % 10000 < 10000 := Nat.mod_lt _ (by decide)
  have k5 : v % 100000000 % 10000 / 100 < 100 := by omega
  have k6 : v % 100000000 % 10000 % 100 < 100 := Nat.mod_lt _ (by decide)
  have k7 : v % 100000000 / 10000 / 100 < 100 := by omega
  have k8 : v % 100000000 / 10000 % 100 < 100 := Nat.mod_lt _ (by decide)
  refine ⟨v % 100000000, v / 100000000, v % 100000000 / 10000, v % 100000000 % 10000, v % 100000000 % 10000 / 100, v % 100000000 % 10000 % 100, v % 100000000 / 10000 / 100, v % 100000000 / 10000 % 100, ⟨(Int.ofNat_tmod _ _).symm, (Int.ofNat_tdiv _ _).symm, (Int.ofNat_tdiv _ _).symm, (Int.ofNat_tmod _ _).symm, (Int.ofNat_tdiv _ _).symm, (Int.ofNat_tmod _ _).symm, (Int.ofNat_tdiv _ _).symm, (Int.ofNat_tmod _ _).symm⟩,
    ⟨u64_of (Nat.lt_trans k1 (by decide)), u64_of k2, u32_of (Nat.lt_trans k1 (by decide)), u32_of (Nat.lt_trans k3 (by decide)), u32_of (Nat.lt_trans k4 (by decide)), u32_of (Nat.lt_trans k5 (by decide)), u32_of (Nat.lt_trans k6 (by decide)), u32_of (Nat.lt_trans k7 (by decide)), u32_of (Nat.lt_trans k8 (by decide))⟩, ⟨?_, ?_, ?_, ?_, ?_⟩, k5, k6, k7, k8, k2⟩
  · omega
  · omega
  · omega
  · omega
  · omega
theorem u32_two {x : Nat} (h : x < 100) : IntKind.u32.wrap ((x : Int) * 2) = (x : Int) * 2 := by
  have := u32_of (y := x * 2) (by omega)
  simpa using this
theorem u32_two1 {x : Nat} (h : x < 100) : IntKind.u32.wrap ((x : Int) * 2 + 1) = (x : Int) * 2 + 1 := by
  have := u32_of (y := x * 2 + 1) (by omega)
  simpa using this
theorem fourD {v : Nat} (hv : v < 4294967296) : ∃ r v' x14 x15 : Nat,
    ((v : Int).tmod 10000 = (r : Int) ∧ (v : Int).tdiv 10000 = (v' : Int) ∧ (r : Int).tdiv 100 = (x14 : Int) ∧ (r : Int).tmod 100 = (x15 : Int)) ∧
    (IntKind.u32.wrap (r : Int) = r ∧ IntKind.u32.wrap (v' : Int) = v' ∧ IntKind.u32.wrap (x14 : Int) = x14 ∧ IntKind.u32.wrap (x15 : Int) = x15) ∧
    (x15 = v % 100 ∧ x14 = v / 100 % 100 ∧ v' = v / 100 / 100) ∧ x14 < 100 ∧ x15 < 100 := by
  have k2 : v / 10000 < 4294967296 := Nat.lt_of_le_of_lt (Nat.div_le_self _ _) hv
  have k4 : v % 10000 < 10000 := Nat.mod_lt _ (by decide)
  have k5 : v % 10000 / 100 < 100 := by omega
  have k6 : v % 10000 % 100 < 100 := Nat.mod_lt _ (by decide)
  refine ⟨v % 10000, v / 10000, v % 10000 / 100, v % 10000 % 100, ⟨(Int.ofNat_tmod _ _).symm, (Int.ofNat_tdiv _ _).symm, (Int.ofNat_tdiv _ _).symm, (Int.ofNat_tmod _ _).symm⟩, ⟨u32_of (Nat.lt_trans k4 (by decide)), u32_of k2, u32_of (Nat.lt_trans k5 (by decide)), u32_of (Nat.lt_trans k6 (by decide))⟩, ⟨?_, ?_, ?_⟩, k5, k6⟩
  · omega
  · omega
  · omega
theorem nt50 : Tryd.f68.ntmps = 167 := by kernel_rfl
def fmtH (S0 : AS) (B nd0 u : Nat) (c0 : List Nat) (k : Nat) (F' : Fr) (S' : AS) : Prop :=
  ∃ (v : Nat) (c : List Nat), RowB S0 S' B c ∧ FmtI c0 1 nd0 u k v c ∧ v < 18446744073709551616 ∧ sl F' 0 = .slice B 0 1 nd0 24 1 (some 23) ∧ sl F' 1 = .int .u64 v ∧ sl F' 4 = .int .i64 k ∧ F'.n = 167
def fmtM (S0 : AS) (B nd0 u : Nat) (c0 : List Nat) (b : Nat) (F' : Fr) (S' : AS) : Prop :=
  ∃ (nd v : Nat) (c : List Nat), RowB S0 S' B c ∧ FmtI c0 1 nd0 u nd v c ∧ nd < b ∧ sl F' 0 = .slice B 0 1 nd0 24 1 (some 23) ∧ sl F' 12 = .int .u32 v ∧ sl F' 4 = .int .i64 nd ∧ F'.n = 167
section
variable {S : AS}
set_option maxRecDepth 20000 in
set_option maxHeartbeats 1000000 in
theorem base50 {B u nd0 : Nat} {c0 : List Nat} (hB : S.h.get B = some (.row (bytA c0) 0 0 false 108)) (h24 : c0.length = 24) (hu : u < 18446744073709551616) (hnd : nd0 = Lib.nDigits u) (hnd20 : nd0 ≤ 20) (hup : u < 10 ^ nd0) :
    CallW C0 68 [.slice B 0 1 nd0 24 1 (some 23), .int .u64 u] S fun r T => r = .tuple [] ∧ ∃ c v, RowB S T B c ∧ FmtI c0 1 nd0 u 0 v c := by
  refine enterW (pu0 _) (pr0 _ rfl) fn50 rfl ok50 (by simp) fun F hn hs' => ?_
  rw [nt50] at hn
  have s0 := hs' 0
  have s1 := hs' 1
  clear hs'
  simp only [List.getElem?_cons_zero, List.getElem?_cons_succ, Option.getD_some] at s0 s1
  simp [s0, s1, len_slice un56]
  refine loopP_of (fmtH S B nd0 u c0) nd0 ⟨u, c0, ⟨hB, fun _ _ => rfl, rfl, h24⟩, FmtI.start c0 (by omega) hup, hu, by simp [s0], by simp [s1], by simp, by simp [hn]⟩ ?_
  clear s0 s1 hn
  rintro k F' S' hn' ⟨v, c, hg, hF, hv, s0, s1, s4, hn⟩
  clear hn'
  have hkle := hF.le
  by_cases h8 : 8 ≤ k
  · have h8' : (8 : Int) ≤ (k : Int) := by omega
    obtain ⟨d, v', q, r, x8, x9, x10, x11, ⟨a1, a2, a3, a4, a5, a6, a7, a8⟩, ⟨b1, b2, b3, b4, b5, b6, b7, b8, b9⟩, ⟨hx9, hx8, hx11, hx10, hv'⟩, ⟨l8, l9, l10, l11, lv⟩⟩ := eight hv
    have f1 : ∀ x : Nat, x < 100 → IntKind.u32.wrap ((x : Int) * 2) = (x : Int) * 2 := fun x h => by
      have := u32_of (y := x * 2) (by omega)
      simpa using this
    have f2 : ∀ x : Nat, x < 100 → IntKind.u32.wrap ((x : Int) * 2 + 1) = (x : Int) * 2 + 1 := fun x h => by
      have := u32_of (y := x * 2 + 1) (by omega)
      simpa using this
    have c8 := f1 x8 l8
    have c9 := f1 x9 l9
    have c10 := f1 x10 l10
    have c11 := f1 x11 l11
    have d8 := f2 x8 l8
    have d9 := f2 x9 l9
    have d10 := f2 x10 l10
    have d11 := f2 x11 l11
    clear f1 f2
    have m1 : IntKind.i64.wrap ((k : Int) - 1) = (k : Int) - 1 := IntWalk.i64_in _ (by omega)
    have m2 : IntKind.i64.wrap ((k : Int) - 2) = (k : Int) - 2 := IntWalk.i64_in _ (by omega)
    have m3 : IntKind.i64.wrap ((k : Int) - 3) = (k : Int) - 3 := IntWalk.i64_in _ (by omega)
    have m4 : IntKind.i64.wrap ((k : Int) - 4) = (k : Int) - 4 := IntWalk.i64_in _ (by omega)
    have m5 : IntKind.i64.wrap ((k : Int) - 5) = (k : Int) - 5 := IntWalk.i64_in _ (by omega)
    have m6 : IntKind.i64.wrap ((k : Int) - 6) = (k : Int) - 6 := IntWalk.i64_in _ (by omega)
    have m7 : IntKind.i64.wrap ((k : Int) - 7) = (k : Int) - 7 := IntWalk.i64_in _ (by omega)
    have m8 : IntKind.i64.wrap ((k : Int) - 8) = (k : Int) - 8 := IntWalk.i64_in _ (by omega)
    obtain ⟨T1, T2, c2, e1, e2, p1, p2, i1, i2, j1, j2, w1, w2, g2, hF2⟩ := two (x := x9) (m1 := (k : Int) - 1) (m2 := (k : Int) - 2) hg hF (by omega) hx9 (by omega) (by omega)
    obtain ⟨T3, T4, c4, e3, e4, p3, p4, i3, i4, j3, j4, w3, w4, g4, hF4⟩ := two (x := x8) (m1 := (k : Int) - 3) (m2 := (k : Int) - 4) g2 hF2 (by omega) hx8 (by omega) (by omega)
    obtain ⟨T5, T6, c6, e5, e6, p5, p6, i5, i6, j5, j6, w5, w6, g6, hF6⟩ := two (x := x11) (m1 := (k : Int) - 5) (m2 := (k : Int) - 6) g4 hF4 (by omega) hx11 (by omega) (by omega)
    obtain ⟨T7, T8, c8', e7, e8, p7, p8, i7, i8, j7, j8, w7, w8, g8, hF8⟩ := two (x := x10) (m1 := (k : Int) - 7) (m2 := (k : Int) - 8) g6 hF6 (by omega) hx10 (by omega) (by omega)
    have hF8' : FmtI c0 1 nd0 u (k - 8) v' c8' := by
      rw [show k - 8 = k - 2 - 2 - 2 - 2 by omega, hv']; exact hF8
    clear hF8 hF6 hF4 hF2 hF g2 g4 g6 hg
    clear hx8 hx9 hx10 hx11 hv'
    simp only [smallsL] at i1 i2 i3 i4 i5 i6 i7 i8
    simp [s0, s1, s4, h8, h8', a1, a2, a3, a4, a5, a6, a7, a8, b1, b2, b3, b4, b5, b6, b7, b8, b9, c8, c9, c10, c11, hn]
    refine draws [.p, .p, .p, .p, .p, .p, .p, .p, .p, .p, .p, .p, .e [], .p, .e []] (n := 167) (by kernel_rfl) (by simp [hn]) ?_
    simp [s0, s4, m1, m2, d9, i1, i2, j1, j2, w1, w2]
    refine draws [.p, .p, .p, .p, .p, .p, .p, .p, .p, .p, .p, .p, .e [], .p, .e []] (n := 167) (by kernel_rfl) (by simp [hn]) ?_
    simp [s0, s4, m3, m4, d8, i3, i4, j3, j4, w3, w4]
    refine draws [.p, .p, .p, .p, .p, .p, .p, .p, .p, .p, .p, .p, .e [], .p, .e []] (n := 167) (by kernel_rfl) (by simp [hn]) ?_
    simp [s0, s4, m5, m6, d11, i5, i6, j5, j6, w5, w6]
    refine draws [.p, .p, .p, .p, .p, .p, .p, .p, .p, .p, .p, .p, .e [], .p, .e []] (n := 167) (by kernel_rfl) (by simp [hn]) ?_
    simp [s0, s4, m7, m8, d10, i7, i8, j7, j8, w7, w8]
    exact ⟨k - 8, by omega, v', c8', g8, hF8', lv, by simp [s0], by simp, by simp; omega, by simp [hn]⟩
  · have h8' : ¬ (8 : Int) ≤ (k : Int) := by omega
    have hvk := hF.small
    have hv8 : v < 100000000 := Nat.lt_of_lt_of_le hvk (by
      have : 10 ^ k ≤ 10 ^ 8 := Nat.pow_le_pow_right (by decide) (by omega)
      simpa using this)
    have b1 := u32_of (y := v) (Nat.lt_trans hv8 (by decide))
    simp [-wpP_cond, s0, s1, s4, h8, h8']
    rw [wpP_cond]
    simp [-wpP_cond, kcode_app, s0, s1, s4, h8, h8', b1]
    refine cut_of (fmtM S B nd0 u c0 4) ?_ ?_
    · by_cases h4 : 4 ≤ k
      · have h4' : (4 : Int) ≤ (k : Int) := by omega
        obtain ⟨r, v', x14, x15, ⟨a1, a2, a3, a4⟩, ⟨b2, b3, b4, b5⟩, ⟨hx15, hx14, hv'⟩, l14, l15⟩ := fourD (Nat.lt_trans hv8 (by decide))
        have c14 := u32_two l14
        have c15 := u32_two l15
        have d14 := u32_two1 l14
        have d15 := u32_two1 l15
        have m1 : IntKind.i64.wrap ((k : Int) - 1) = (k : Int) - 1 := IntWalk.i64_in _ (by omega)
        have m2 : IntKind.i64.wrap ((k : Int) - 2) = (k : Int) - 2 := IntWalk.i64_in _ (by omega)
        have m3 : IntKind.i64.wrap ((k : Int) - 3) = (k : Int) - 3 := IntWalk.i64_in _ (by omega)
        have m4 : IntKind.i64.wrap ((k : Int) - 4) = (k : Int) - 4 := IntWalk.i64_in _ (by omega)
        obtain ⟨T1, T2, c2, e1, e2, p1, p2, i1, i2, j1, j2, w1, w2, g2, hF2⟩ := two (x := x15) (m1 := (k : Int) - 1) (m2 := (k : Int) - 2) hg hF (by omega) hx15 (by omega) (by omega)
        obtain ⟨T3, T4, c4, e3, e4, p3, p4, i3, i4, j3, j4, w3, w4, g4, hF4⟩ := two (x := x14) (m1 := (k : Int) - 3) (m2 := (k : Int) - 4) g2 hF2 (by omega) hx14 (by omega) (by omega)
        have hF4' : FmtI c0 1 nd0 u (k - 4) v' c4 := by
          rw [show k - 4 = k - 2 - 2 by omega, hv']; exact hF4
        clear hF4 hF2 hF g2 hg hx14 hx15 hv' hv8 hvk
        simp only [smallsL] at i1 i2 i3 i4
        simp [s0, s4, h4, h4', a1, a2, a3, a4, b2, b3, b4, b5, c14, c15, hn]
        refine draws [.p, .p, .p, .p, .p, .p, .p, .p, .p, .p, .p, .p, .e [], .p, .e []] (n := 167) (by kernel_rfl) (by simp [hn]) ?_
        simp [s0, s4, m1, m2, d15, i1, i2, j1, j2, w1, w2]
        refine draws [.p, .p, .p, .p, .p, .p, .p, .p, .p, .p, .p, .p, .e [], .p, .e []] (n := 167) (by kernel_rfl) (by simp [hn]) ?_
        simp [s0, s4, m3, m4, d14, i3, i4, j3, j4, w3, w4]
        exact ⟨k - 4, v', c4, g4, hF4', by omega, by simp [s0], by simp, by simp; omega, by simp [hn]⟩
      · have h4' : ¬ (4 : Int) ≤ (k : Int) := by omega
        simp [s4, h4, h4']
        exact ⟨k, v, c, hg, hF, by omega, by simp [s0], by simp, by simp [s4], by simp [hn]⟩
    clear hg hF hv s0 s1 s4 hn hvk hv8 b1 hkle h8 h8' F' S' k v c
    rintro F1 S1 ⟨k, v, c, hg, hF, hk4, s0, s12, s4, hn⟩
    simp [-wpP_cond, kcode_app, s0, s4, s12]
    refine cut_of (fmtM S B nd0 u c0 2) ?_ ?_
    · by_cases h2 : 2 ≤ k
      · have h2' : (2 : Int) ≤ (k : Int) := by omega
        have hvk := hF.small
        have hkle := hF.le
        have hv8 : v < 100000000 := Nat.lt_of_lt_of_le hvk (by
          have : 10 ^ k ≤ 10 ^ 8 := Nat.pow_le_pow_right (by decide) (by omega)
          simpa using this)
        obtain ⟨x16, hx16⟩ : ∃ x, x = v % 100 := ⟨_, rfl⟩
        obtain ⟨v', hv'⟩ : ∃ v', v' = v / 100 := ⟨_, rfl⟩
        have l16 : x16 < 100 := by rw [hx16]; exact Nat.mod_lt _ (by decide)
        have lv : v' < 100000000 := by rw [hv']; exact Nat.lt_of_le_of_lt (Nat.div_le_self _ _) hv8
        have a1 : (v : Int).tmod 100 = (x16 : Int) := by rw [hx16]; exact (Int.ofNat_tmod _ _).symm
        have a2 : (v : Int).tdiv 100 = (v' : Int) := by rw [hv']; exact (Int.ofNat_tdiv _ _).symm
        have b2 := u32_of (y := x16) (Nat.lt_trans l16 (by decide))
        have b3 := u32_of (y := v') (Nat.lt_trans lv (by decide))
        have c16 := u32_two l16
        have d16 := u32_two1 l16
        have m1 : IntKind.i64.wrap ((k : Int) - 1) = (k : Int) - 1 := IntWalk.i64_in _ (by omega)
        have m2 : IntKind.i64.wrap ((k : Int) - 2) = (k : Int) - 2 := IntWalk.i64_in _ (by omega)
        obtain ⟨T1, T2, c2, e1, e2, p1, p2, i1, i2, j1, j2, w1, w2, g2, hF2⟩ := two (x := x16) (m1 := (k : Int) - 1) (m2 := (k : Int) - 2) hg hF h2 hx16 (by omega) (by omega)
        rw [← hv'] at hF2
        clear hF hg hx16 hv' hv8 hvk
        simp only [smallsL] at i1 i2
        simp [s0, s4, s12, h2, h2', a1, a2, b2, b3, c16, hn]
        refine draws [.p, .p, .p, .p, .p, .p, .p, .p, .p, .p, .p, .p, .e [], .p, .e []] (n := 167) (by kernel_rfl) (by simp [hn]) ?_
        simp [s0, s4, m1, m2, d16, i1, i2, j1, j2, w1, w2]
        exact ⟨k - 2, v', c2, g2, hF2, by omega, by simp [s0], by simp, by simp; omega, by simp [hn]⟩
      · have h2' : ¬ (2 : Int) ≤ (k : Int) := by omega
        simp [s4, h2, h2']
        exact ⟨k, v, c, hg, hF, by omega, by simp [s0], by simp [s12], by simp [s4], by simp [hn]⟩
    clear hg hF s0 s12 s4 hn hk4 F1 S1 k v c
    rintro F1 S1 ⟨k, v, c, hg, hF, hk2, s0, s12, s4, hn⟩
    by_cases h0 : 0 < k
    · obtain rfl : k = 1 := by omega
      have hv10 : v < 10 := by simpa using hF.small
      have hle := hF.le
      obtain ⟨x, hx⟩ : ∃ x, x = 48 + v := ⟨_, rfl⟩
      have b1 : IntKind.u32.wrap (48 + (v : Int)) = (x : Int) := by rw [show (48 + (v : Int)) = ((x : Nat) : Int) by omega]; exact u32_of (by omega)
      have b2 := u8_of (y := x) (by omega)
      obtain ⟨T1, e1, g1⟩ := hg.put (j := 1) (b := x) (by decide)
      have hF1 := hF.step1
      rw [← hx] at hF1
      have ia := fun (F : Fr) (S : AS) (dst : Option Tmp) (ty : TypeId) (pos : String) (af : Array Edge) (gd : Option (Nat × Bool)) (a : Tmp) (h1 : sl F a = .slice B 0 1 nd0 24 1 (some 23)) => aop_indexAddr (cx := C0) (F := F) (S := S) (dst := dst) (ty := ty) (pos := pos) (af := af) (g := gd) (ix := .const (.int .i64 0)) (i := 0) ((eval_tmp F a).trans h1) un56 (by kernel_rfl) rfl rfl hle
      simp at s4 ia
      simp [kcode_app, s0, s4, s12, b1, b2, ia, e1]
      exact ⟨_, g1, 0, hF1⟩
    · obtain rfl : k = 0 := by omega
      simp at s4
      simp [kcode_app, s0, s4, s12]
      exact ⟨_, hg, _, hF⟩
end
end Go.Proofs.YtpglcebeldgeeaaDoor.val

namespace Go.Proofs.YtpglcebeldgeeaaDoor.val
open Go Go.Am Go.Proofs.YtpglcebeldgeeaaDoor.laid
set_option linter.unusedVariables false
set_option linter.unusedSimpArgs false

theorem sliceV_arr {F : Fr} {lo hi : Option Operand} {l k B : Nat} (hl : bound F lo 0 = some l) (hh : bound F hi 24 = some k) (h1 : l ≤ k) (h2 : k ≤ 24) (h3 : l < 24) : sliceV C0 F 108 (.ptr B 0 0 24) lo hi none = some (.slice B 0 l (k - l) 24 1 (some (24 - l))) := by
  have hb : bounds F 24 24 lo hi none = some (l, k, 24) := by
    unfold bounds
    rw [hl, hh]
    have e : bound F none 24 = some 24 := rfl
    rw [e]
    simp [nble, h1, h2, isS]
  have z5 : szOf C0 5 = some 1 := by kernel_rfl
  unfold sliceV
  simp only [un81, z5, hb]
  have e1 : Nat.ble (Nat.add 0 (Nat.mul 24 1)) 24 = true := rfl
  rw [e1]
  unfold cutV
  have e2 : Nat.beq 24 l = false := by rw [nbeq]; simp; omega
  rw [e2]
  simp [forceN_eq]
theorem lt_pow_nd (u : Nat) : u < 10 ^ Lib.nDigits u := by
  induction u using Nat.strongRecOn with
  | _ u ih =>
    by_cases h : u < 10
    · rw [Lib.nDigits_small h]; simpa using h
    · rw [Lib.nDigits_big h, Nat.pow_succ]
      have := ih (u / 10) (by omega)
      omega
theorem RowB.cut {S0 S : AS} {B l n : Nat} {c : List Nat} (g : RowB S0 S B c) (hB : B < S.next) (h : l + n ≤ 24) (h0 : 0 < n) : Sl S (.slice B 0 l n 24 1 (some (24 - l))) 1 (bytA ((c.drop l).take n)) := by
  obtain ⟨g1, g2, g3, g4⟩ := g
  refine ⟨by simp [isSl, capB]; omega, ?_, by simp [sLen, bytA_len]; omega, by simp only [bnd]; omega⟩
  obtain ⟨m, rfl⟩ : ∃ m, n = m + 1 := ⟨n - 1, by omega⟩
  simp [rdS, rd_at, g1, rdO_row]
  refine ⟨by omega, ?_⟩
  simp [bytA, List.map_take, List.map_drop]
/-- The first place, a constant laid there. -/
theorem RowB.first {S0 S : AS} {B : Nat} {c : List Nat} (g : RowB S0 S B c) :
    ∃ T, (∀ (F : Fr) (dst : Option Tmp) (ty : TypeId) (pos : String) (af : Array Edge) (gd : Option (Nat × Bool)) (x : Tmp), sl F x = .ptr B 0 0 24 → aop C0 F S ⟨dst, .store 5 (.tmp x) (.const (.int .u8 45)), ty, pos, af, gd⟩ = .val .undef T) ∧ RowB S0 T B (c.set 0 45) := by
  obtain ⟨g1, g2, g3, g4⟩ := g
  refine ⟨⟨S.h.set B (.row (bytA (c.set 0 45)) 0 0 false 108), S.next⟩, fun F dst ty pos af gd x hx => ?_, get_set_same _ _ _, fun id h => (get_set_ne _ _ h).trans (g2 id h), g3, by rw [List.length_set]; exact g4⟩
  refine aop_store_at (v := .ptr B 0 0 24) (n := 1) (cs := [.int .u8 45]) hx rfl (by kernel_rfl) rfl ?_
  rw [wrV_ptr, wr_at, g1, wrO_row, if_pos ⟨rfl, by simp, rfl⟩]
  rw [splice_lit (by rw [bytA_len]; omega)]
  congr 4
  rw [List.set_eq_take_append_cons_drop, if_pos (by omega)]
  simp [bytA]
theorem arr_first {F : Fr} {S : AS} {B : Nat} {dst : Option Tmp} {ty : TypeId} {pos : String} {af : Array Edge} {gd : Option (Nat × Bool)} {x : Tmp} (hx : sl F x = .ptr B 0 0 24) : aop C0 F S ⟨dst, .indexAddr 108 (.tmp x) (.const (.int .i64 0)), ty, pos, af, gd⟩ = .val (.ptr B 0 0 24) S := by
  have z5 : szOf C0 5 = some 1 := by kernel_rfl
  have e0 : natOf (eval F (.const (.int .i64 0))) = some 0 := rfl
  simp only [aop, un81, eval_tmp, hx, e0, z5]
  rfl
theorem decN_bytes (u : Nat) : ∀ c, c ∈ decN u → c < 256 := fun c hc => by have := decN_digit u c hc; omega
theorem nt37 : Tryd.f45.ntmps = 54 := by kernel_rfl
section
variable {S : AS}
set_option maxRecDepth 20000 in
theorem fmt37 {n : Int} (h1 : -9223372036854775808 ≤ n) (h2 : n < 9223372036854775808) : CallW C0 45 [.int .i64 n, .int .i64 10] S fun r T => r = .str (fmtN n) ∧ Sub S T := by
  refine enterW (pu0 _) (pr0 _ rfl) fn37 rfl ok37 (by simp) fun F hn hs' => ?_
  rw [nt37] at hn
  have s0 := hs' 0
  have s1 := hs' 1
  clear hs'
  simp only [List.getElem?_cons_zero, List.getElem?_cons_succ, Option.getD_some] at s0 s1
  unfold fmtN
  by_cases hs : 0 ≤ n ∧ n < 100
  · obtain ⟨u, rfl⟩ : ∃ u : Nat, n = u := ⟨n.toNat, by omega⟩
    have hu : u < 100 := by omega
    have hu' : (u : Int) < 100 := by omega
    have e48 := fun (S : AS) Q => small48 hu (S := S) (Q := Q)
    rw [if_neg (by omega)]
    simp [s0, s1, hu, hu', e48, ex0, Sub.refl]
  · obtain ⟨c0, hc0⟩ : ∃ c0 : List Nat, c0 = [0, 0, 0, 0, 0, 0, 0, 0, 0, 0, 0, 0, 0, 0, 0, 0, 0, 0, 0, 0, 0, 0, 0, 0] := ⟨_, rfl⟩
    have hb0 : bytA c0 = [.int .u8 0, .int .u8 0, .int .u8 0, .int .u8 0, .int .u8 0, .int .u8 0, .int .u8 0, .int .u8 0, .int .u8 0, .int .u8 0, .int .u8 0, .int .u8 0, .int .u8 0, .int .u8 0, .int .u8 0, .int .u8 0, .int .u8 0, .int .u8 0, .int .u8 0, .int .u8 0, .int .u8 0, .int .u8 0, .int .u8 0, .int .u8 0] := by rw [hc0]; rfl
    have h24 : c0.length = 24 := by rw [hc0]; rfl
    clear hc0
    obtain ⟨u, hu⟩ : ∃ u : Nat, u = n.natAbs := ⟨_, rfl⟩
    obtain ⟨nd, hnd⟩ : ∃ nd, nd = Lib.nDigits u := ⟨_, rfl⟩
    have hu64 : u < 18446744073709551616 := by omega
    have hnd20 : nd ≤ 20 := by rw [hnd]; exact nDigits_le 19 u (by omega)
    have hnd0 : 0 < nd := by rw [hnd]; exact Lib.nDigits_pos u
    have hup : u < 10 ^ nd := by rw [hnd]; exact lt_pow_nd u
    obtain ⟨r, T, ⟨rfl, c, v, hg, hF⟩, e50⟩ := (base50 (S := ⟨S.h.set S.next (.row (bytA c0) 0 0 false 108), S.next + 1⟩) (B := S.next) (get_set_same _ _ _) h24 hu64 hnd hnd20 hup).ex
    have e49 := fun (S : AS) Q => num49 (u := u) (by omega) hu64 (S := S) (Q := Q)
    rw [← hnd] at e49
    have hTn : T.next = S.next + 1 := hg.2.2.1
    have hST : Sub S T := ⟨fun id hid => (hg.2.1 id (by omega)).trans (get_set_ne _ _ (by omega)), by omega⟩
    have hnum : (c.drop 1).take nd = decN u := by
      have := hF
      rw [hnd] at this
      rw [hnd]
      exact this.numeral
    have w3 : IntKind.i64.wrap (1 + (nd : Int)) = 1 + (nd : Int) := IntWalk.i64_in _ (by omega)
    have bd : ∀ (F : Fr) (x : Tmp) (m : Nat), sl F x = .int .i64 (1 + (nd : Int)) → bound F (some (.tmp x)) m = some (1 + nd) := fun F x m h => by
      rw [bound_some, eval_tmp, h, show (1 + (nd : Int)) = ((1 + nd : Nat) : Int) by omega]; exact natOf_nat
    have sv1 := fun (F : Fr) (B : Nat) (x : Tmp) (h : sl F x = .int .i64 (1 + (nd : Int))) => (sliceV_arr (B := B) (F := F) (lo := some (.const (.int .i64 1))) (hi := some (.tmp x)) (l := 1) rfl (bd F x _ h) (by omega) (by omega) (by decide)).trans (show _ = some (AV.slice B 0 1 nd 24 1 (some 23)) by rw [show 1 + nd - 1 = nd by omega])
    have sv0 := fun (F : Fr) (B : Nat) (x : Tmp) (h : sl F x = .int .i64 (1 + (nd : Int))) => (sliceV_arr (B := B) (F := F) (lo := none) (hi := some (.tmp x)) (l := 0) rfl (bd F x _ h) (by omega) (by omega) (by decide))
    have af1 := fun (F : Fr) (S : AS) (B : Nat) (dst : Option Tmp) (ty : TypeId) (pos : String) (af : Array Edge) (gd : Option (Nat × Bool)) (x : Tmp) (hx : sl F x = .ptr B 0 0 24) => arr_first (F := F) (S := S) (dst := dst) (ty := ty) (pos := pos) (af := af) (gd := gd) hx
    rw [hb0] at e50
    by_cases hneg : n < 0
    · rw [if_pos hneg, ← hu]
      have hnn : ¬ 0 ≤ n := by omega
      have w1 : IntKind.u64.wrap n = ((18446744073709551616 - u : Nat) : Int) := by simp [IntKind.wrap, IntKind.bits, IntKind.signed]; omega
      have w2 : IntKind.u64.wrap (-((18446744073709551616 - u : Nat) : Int)) = (u : Int) := by simp [IntKind.wrap, IntKind.bits, IntKind.signed]; omega
      generalize 18446744073709551616 - u = nu at w1 w2
      obtain ⟨T2, e1, g1⟩ := hg.first
      have hl : ((c.set 0 45).drop 0).take (1 + nd) = 45 :: decN u := by
        rw [← hnum]
        cases c with
        | nil => have := hg.2.2.2; simp at this
        | cons x c => rw [Nat.add_comm]; simp
      have hcut := g1.cut (l := 0) (n := 1 + nd) (by have := g1.2.2.1; simp at this; omega) (by omega) (by omega)
      rw [hl] at hcut
      have tx := fun (F : Fr) (dst : Option Tmp) (ty : TypeId) (pos : String) (af : Array Edge) (gd : Option (Nat × Bool)) (x : Tmp) (a : sl F x = .slice S.next 0 0 (1 + nd) 24 1 (some 24)) => aop_text (cx := C0) (F := F) (S := T2) (dst := dst) (ty := ty) (pos := pos) (af := af) (gd := gd) (a := 43) (b := 9) hcut (fun x hx => by
        rcases List.mem_cons.1 hx with h | h
        · omega
        · exact decN_bytes u x h) ((eval_tmp F x).trans a) bE56 sT9
      have hT2 : Sub S T2 := ⟨fun id hid => (g1.2.1 id (by omega)).trans (get_set_ne _ _ (by omega)), by have := g1.2.2.1; simp at this; omega⟩
      simp [s0, s1, hnn, hneg, w1, w2, w3, e49, ex0, sv1, sv0, e50, af1, e1, tx, hT2]
    · rw [if_neg hneg]
      have hnn : 0 ≤ n := by omega
      have h100 : ¬ n < 100 := by omega
      rw [show n.toNat = u by omega]
      have hcut := hg.cut (l := 1) (n := nd) (by omega) (by omega) hnd0
      rw [hnum] at hcut
      have tx := fun (F : Fr) (dst : Option Tmp) (ty : TypeId) (pos : String) (af : Array Edge) (gd : Option (Nat × Bool)) (x : Tmp) (a : sl F x = .slice S.next 0 1 nd 24 1 (some 23)) => aop_text (cx := C0) (F := F) (S := T) (dst := dst) (ty := ty) (pos := pos) (af := af) (gd := gd) (a := 43) (b := 9) hcut (decN_bytes u) ((eval_tmp F x).trans a) bE56 sT9
      obtain rfl : n = (u : Int) := by omega
      have w1 := u64_of hu64
      have h100' : ¬ u < 100 := by omega
      simp [s0, s1, h100, h100', hneg, w1, w3, e49, ex0, sv1, e50, tx, hST]
theorem fmt26 {n : Int} (h1 : -9223372036854775808 ≤ n) (h2 : n < 9223372036854775808) : CallW C0 32 [.int .i64 n, .int .i64 10] S fun r T => r = .str (fmtN n) ∧ Sub S T := by
  refine enterW (pu0 _) (pr0 _ rfl) fn26 rfl ok26 (by simp) fun F hn hs' => ?_
  have s0 := hs' 0
  have s1 := hs' 1
  clear hs'
  simp only [List.getElem?_cons_zero, List.getElem?_cons_succ, Option.getD_some] at s0 s1
  obtain ⟨r, T, ⟨rfl, hT⟩, e37⟩ := (fmt37 (S := S) h1 h2).ex
  simp [s0, s1, e37, ex0, hT]
end
end Go.Proofs.YtpglcebeldgeeaaDoor.val

namespace Go.Proofs.YtpglcebeldgeeaaDoor.val
open Go Go.Am Go.Proofs.YtpglcebeldgeeaaDoor.laid
set_option linter.unusedVariables false
set_option linter.unusedSimpArgs false

theorem nt14 : Tryd.f13.ntmps = 24 := by kernel_rfl
section
variable {S : AS}
set_option maxRecDepth 20000 in
theorem text14 (v : ValV) (hv : okV2 v) : CallW C0 13 [.agg (encV v)] S fun r T => textR r (textV v) ∧ Sub S T := by
  have hA : Sub S ⟨S.h.set S.next (.row (encV v) 0 0 false 36), S.next + 1⟩ := sub1
  obtain ⟨r, T, ⟨rfl, hT⟩, e1⟩ := (may10 (S := ⟨S.h.set S.next (.row (encV v) 0 0 false 36), S.next + 1⟩) v).ex
  have g1 : T.h.get S.next = some (.row (encV v) 0 0 false 36) := by rw [hT.h _ (Nat.lt_succ_self _)]; exact get_set_same _ _ _
  have hS := hA.trans hT
  obtain ⟨r, T2, ⟨rfl, hT2⟩, e2⟩ := (has21 (S := T) v).ex
  have g2 : T2.h.get S.next = some (.row (encV v) 0 0 false 36) := by rw [hT2.h _ (by have := hT.next; exact Nat.lt_of_lt_of_le (Nat.lt_succ_self _) this)]; exact g1
  have hS2 := hS.trans hT2
  unfold textV
  refine enterW (pu0 _) (pr0 _ rfl) fn14 rfl ok14 (by simp) fun F hn hs => ?_
  rw [nt14] at hn
  have s0 := hs 0
  clear hs
  simp only [List.getElem?_cons_zero, Option.getD_some] at s0
  cases hm : mayV v with
  | false =>
    rw [hm] at e1
    simp only [encV] at s0 e1 g1
    simp [s0, e1, ex0, textR, hS]
  | true =>
    rw [hm] at e1
    obtain ⟨hb, h1, h2⟩ := hv
    obtain ⟨k, n, s, b⟩ := v
    simp only [encV] at s0 e1 e2 g1 g2
    simp only at hb h1 h2
    unfold txtV
    unfold hasV at e2
    simp only at e2
    by_cases hk1 : k = 1
    · subst hk1
      simp at e2
      obtain ⟨r, W, ⟨rfl, hW⟩, e3⟩ := (fmt26 (S := T2) h1 h2).ex
      simp [s0, e1, e2, e3, ex0, g1, g2, textR, hS2.trans hW]
    · by_cases hk3 : k = 3
      · subst hk3
        have e27 := fun (S : AS) Q => bool27 b (S := S) (Q := Q)
        simp at e2
        simp [s0, e1, e2, e27, ex0, g1, g2, textR, hS2]
      · have hk2 : k = 2 := by unfold mayV at hm; simp only [hk1, hk3, if_false] at hm; by_cases h : k = 2; exact h; simp [h] at hm
        subst hk2
        simp at e2
        have hl32 : s.length ≤ 32 := by unfold mayV at hm; simp at hm; exact hm.1
        obtain ⟨r, W, ⟨rfl, hW⟩, e3⟩ := (quote28 (S := T2) hb (by omega)).ex
        simp [s0, e1, e2, e3, ex0, g1, g2, textR, hS2.trans hW]
end
end Go.Proofs.YtpglcebeldgeeaaDoor.val

namespace Go.Proofs.YtpglcebeldgeeaaDoor.val
open Go Go.Am Go.Proofs.YtpglcebeldgeeaaDoor.laid
set_option linter.unusedVariables false
set_option linter.unusedSimpArgs false

theorem nt16 : Tryd.f20.ntmps = 52 := by kernel_rfl
theorem readV_num {s : List Nat} {m : Int} (h : parI s = some m) : readV s = ⟨1, m, [], false⟩ := by unfold readV; rw [h]
theorem readV_unq {s x : List Nat} (h : parI s = none) (hx : unq s = some x) : readV s = ⟨2, 0, x, false⟩ := by unfold readV; rw [h]; simp only [hx]
theorem readV_tf {s : List Nat} (h : parI s = none) (hx : unq s = none) (ht : s = trueN ∨ s = falseN) : readV s = ⟨3, 0, [], decide (s = trueN)⟩ := by unfold readV; rw [h]; simp only [hx, ht, if_true]
theorem readV_zero {s : List Nat} (h : parI s = none) (hx : unq s = none) (ht : ¬ s = trueN) (hf : ¬ s = falseN) : readV s = zeroV := by unfold readV; rw [h]; simp only [hx, ht, hf, or_self, if_false]
theorem eqNil : binV C0 .eql 49 true .niface .niface = some (.bool true) := by kernel_rfl
theorem eq88 (n m : Nat) : binV C0 .eql 49 true (.iface 113 (.ptr n 0 0 m)) .niface = some (.bool false) := by kernel_rfl
section
variable {S : AS}
set_option maxRecDepth 20000 in
theorem parse16 {s : List Nat} (hs : ∀ c, c ∈ s → c < 256) (hl : s.length < 140737488355328) : CallW C0 20 [.str s] S fun r T => Sub S T ∧ parO r (parseV s) := by
  refine enterW (pu0 _) (pr0 _ rfl) fn16 rfl ok16 (by simp) fun F hn hs' => ?_
  rw [nt16] at hn
  have s0 := hs' 0
  clear hs'
  simp only [List.getElem?_cons_zero, List.getElem?_cons_succ, Option.getD_some] at s0
  have hov := readV_ok hs
  obtain ⟨P, hP⟩ : ∃ P : AS, P = ⟨((S.h.set S.next (.row (encV zeroV) 0 0 false 36)).set (S.next + 1) (.row (encV zeroV) 0 0 false 36)).set (S.next + 1) (.row (encV zeroV) 0 0 false 36), S.next + 2⟩ := ⟨_, rfl⟩
  have hSP : Sub S P := by rw [hP]; exact sub2.set _ _ (by omega) _ (Nat.le_refl _)
  have p1 : P.h.get S.next = some (.row (encV zeroV) 0 0 false 36) := by rw [hP]; simp
  have p2 : P.h.get (S.next + 1) = some (.row (encV zeroV) 0 0 false 36) := by rw [hP]; simp
  have hPn : P.next = S.next + 2 := by rw [hP]
  obtain ⟨r, T, ⟨hT, hr⟩, e30⟩ := (parse30 (S := P) hs (by omega)).ex
  have t1 := (hT.h _ (by omega)).trans p1
  have t2 := (hT.h _ (by omega)).trans p2
  have hTn := hT.next
  have hST := hSP.trans hT
  obtain ⟨w, er, ok, rfl, hok, hw⟩ : ∃ (w : Int) (er : AV) (ok : Bool), r = .tuple [.int .i64 w, er] ∧ binV C0 .eql 49 true er .niface = some (.bool ok) ∧ (match parI s with | some m => ok = true ∧ w = m | none => ok = false) := by
    cases hN : parI s with
    | some m => rw [hN] at hr; exact ⟨m, _, true, hr, eqNil, rfl, rfl⟩
    | none => rw [hN] at hr; obtain ⟨w, n, m, rfl⟩ := hr; exact ⟨w, _, false, rfl, eq88 n m, rfl⟩
  have hP' := hP
  simp only [encV, zeroV] at hP'
  clear hr hP
  have mid : ∀ (W : AS) (F' : Fr) (v : ValV), Sub T W → sl F' 0 = .str s → sl F' 2 = .ptr S.next 0 0 4 → sl F' 4 = .ptr (S.next + 1) 0 0 4 → F'.n = 52 → parM S 52 s v F' ⟨W.h.set (S.next + 1) (.row (encV v) 0 0 false 36), W.next⟩ := fun W F' v hW a b c d => by
    have := hW.next
    refine parM_mk ((hST.trans hW).set _ _ (by omega) _ (Nat.le_refl _)) (by show S.next + 2 ≤ W.next; omega) ?_ (get_set_same _ _ _) a b c d
    rw [show (⟨W.h.set (S.next + 1) (.row (encV v) 0 0 false 36), W.next⟩ : AS).h.get S.next = W.h.get S.next from get_set_ne _ _ (by omega)]
    exact (hW.h _ (by omega)).trans t1
  simp [-wpP_cond, s0, bld23_0, ← hP', e30, ex0, hok]
  refine cut_of (parM S 52 s (readV s)) ?_ ?_
  · cases hN : parI s with
    | some m =>
      rw [hN] at hw
      obtain ⟨rfl, rfl⟩ := hw
      rw [readV_num hN]
      obtain ⟨r, W, ⟨rfl, hW⟩, e1⟩ := (number18 (S := T) w).ex
      have g2 := (hW.h _ (by omega)).trans t2
      have fin := fun F' => mid W F' ⟨1, w, [], false⟩ hW
      simp only [encV, zeroV] at e1 g2 fin
      simp [s0, e1, ex0, g2]
      exact fin _ (by simp [s0]) (by simp) (by simp) (by simp [hn])
    | none =>
      rw [hN] at hw
      subst hw
      obtain ⟨r, W, ⟨hW, hr⟩, e1⟩ := (unquote31 (S := T) hs hl).ex
      have g2 := (hW.h _ (by omega)).trans t2
      have hWn := hW.next
      cases hU : unq s with
      | some x =>
        rw [hU] at hr
        subst hr
        rw [readV_unq hN hU]
        obtain ⟨r, V, ⟨rfl, hV⟩, e2⟩ := (word19 (S := W) x).ex
        have g3 := (hV.h _ (by omega)).trans g2
        have fin := fun F' => mid V F' ⟨2, 0, x, false⟩ (hW.trans hV)
        simp only [encV, zeroV] at e2 g3 fin
        simp [s0, e1, e2, ex0, g3]
        exact fin _ (by simp [s0]) (by simp) (by simp) (by simp [hn])
      | none =>
        rw [hU] at hr
        subst hr
        by_cases ht : s = trueN
        · rw [readV_tf hN hU (.inl ht)]
          obtain ⟨r, V, ⟨rfl, hV⟩, e2⟩ := (truth20 (S := W) true).ex
          have g3 := (hV.h _ (by omega)).trans g2
          have fin := fun F' => mid V F' ⟨3, 0, [], true⟩ (hW.trans hV)
          have hd : decide (s = trueN) = true := by simp [ht]
          rw [hd]
          have ht' : (s = [116, 114, 117, 101]) = True := eq_true ht
          simp only [encV, zeroV] at e2 g3 fin
          simp [s0, e1, e2, ex0, g3, eqS_eq, ht']
          exact fin _ (by simp [s0]) (by simp) (by simp) (by simp [hn])
        · have ht' : ¬ s = [116, 114, 117, 101] := ht
          by_cases hf : s = falseN
          · rw [readV_tf hN hU (.inr hf)]
            obtain ⟨r, V, ⟨rfl, hV⟩, e2⟩ := (truth20 (S := W) false).ex
            have g3 := (hV.h _ (by omega)).trans g2
            have fin := fun F' => mid V F' ⟨3, 0, [], false⟩ (hW.trans hV)
            have hd : decide (s = trueN) = false := by simp [ht]
            rw [hd]
            have hf' : (s = [102, 97, 108, 115, 101]) = True := eq_true hf
            simp only [encV, zeroV] at e2 g3 fin
            simp [s0, e1, e2, ex0, g3, eqS_eq, ht', hf']
            exact fin _ (by simp [s0]) (by simp) (by simp) (by simp [hn])
          · have hf' : ¬ s = [102, 97, 108, 115, 101] := hf
            rw [readV_zero hN hU ht hf]
            simp [s0, e1, ex0, eqS_eq, ht', hf']
            exact parM_mk (hST.trans hW) (by omega) ((hW.h _ (by omega)).trans t1) g2 (by simp [s0]) (by simp) (by simp) (by simp [hn])
  clear mid hok hw e30 hST hTn t1 t2 hT T hPn p1 p2 hSP hP' P hn s0 F
  unfold parseV
  generalize readV s = v at hov
  rintro F T ⟨hT, hTn, f1, f2, s0, s2, s4, hn⟩
  obtain ⟨r, W, ⟨hr, hW⟩, e15⟩ := (text14 (S := T) v hov).ex
  have g1 := (hW.h _ (by omega)).trans f1
  have g2 := (hW.h _ (by omega)).trans f2
  have hWn := hW.next
  have hSW := hT.trans hW
  have ho : ∀ o : AObj, Sub S ⟨W.h.set S.next o, W.next⟩ := fun o => hSW.set _ _ (Nat.le_refl _) _ (Nat.le_refl _)
  cases ht : textV v with
  | none =>
    rw [ht] at hr
    subst hr
    simp only [encV, zeroV] at e15 f1 f2 g1 g2
    simp [kcode_app, s0, s2, s4, f2, g1, g2, e15, ex0, bld23_0]
    exact ⟨ho _, rfl⟩
  | some t =>
    rw [ht] at hr
    subst hr
    simp only [encV, zeroV] at e15 f1 f2 g1 g2
    by_cases hts : t = s
    · subst hts
      simp [kcode_app, s0, s2, s4, f2, g1, g2, e15, ex0, eqS_eq]
      exact ⟨ho _, rfl⟩
    · have hts' : ¬ some t = some s := fun e => hts (Option.some.inj e)
      rw [if_neg hts']
      simp [kcode_app, s0, s2, s4, f2, g1, g2, e15, ex0, eqS_eq, hts, bld23_0]
      exact ⟨ho _, rfl⟩
end
end Go.Proofs.YtpglcebeldgeeaaDoor.val
