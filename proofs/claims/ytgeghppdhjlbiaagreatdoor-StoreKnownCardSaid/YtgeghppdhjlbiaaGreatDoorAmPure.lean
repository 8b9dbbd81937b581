/-
  The abstract machine against the model: what reckons alone.
-/
import Derived.Test.YtgeghppdhjlbiaaGreatDoorAmRun
import Derived.IntWalk
namespace Go.Am
open Go

/-! ### Numbers -/
theorem inR_nat (k : IntKind) (m : Nat) : inR k (m : Int) = decide (m < half k) := nblt
theorem inR_wrap {k : IntKind} {n : Int} (h : inR k n = true) : k.wrap n = n := by
  cases n with
  | ofNat m =>
    have hm : m < half k := of_decide_eq_true ((inR_nat k m).symm.trans h)
    cases k
    · exact IntWalk.i8_in _ (by simp only [half] at hm; simp only [Int.ofNat_eq_natCast]; omega)
    · exact IntWalk.i16_in _ (by simp only [half] at hm; simp only [Int.ofNat_eq_natCast]; omega)
    · exact IntWalk.i32_in _ (by simp only [half] at hm; simp only [Int.ofNat_eq_natCast]; omega)
    · exact IntWalk.i64_in _ (by simp only [half] at hm; simp only [Int.ofNat_eq_natCast]; omega)
    · exact IntWalk.u8_in _ (by simp only [half] at hm; simp only [Int.ofNat_eq_natCast]; omega)
    · exact IntWalk.u16_in _ (by simp only [half] at hm; simp only [Int.ofNat_eq_natCast]; omega)
    · exact IntWalk.u32_in _ (by simp only [half] at hm; simp only [Int.ofNat_eq_natCast]; omega)
    · exact IntWalk.u64_in _ (by simp only [half] at hm; simp only [Int.ofNat_eq_natCast]; omega)
  | negSucc m =>
    have hm : sgn k = true ∧ m < half k := by
      have h' : cond (sgn k) (Nat.blt m (half k)) false = true := h
      cases hs : sgn k with
      | false => rw [hs] at h'; cases h'
      | true => rw [hs] at h'; exact ⟨rfl, of_decide_eq_true (nblt.symm.trans h')⟩
    obtain ⟨hs, hm⟩ := hm
    cases k
    · exact IntWalk.i8_in _ (by simp only [half] at hm; omega)
    · exact IntWalk.i16_in _ (by simp only [half] at hm; omega)
    · exact IntWalk.i32_in _ (by simp only [half] at hm; omega)
    · exact IntWalk.i64_in _ (by simp only [half] at hm; omega)
    all_goals cases hs
theorem wrapF_eq (k : IntKind) (n : Int) : wrapF k n = k.wrap n := by
  unfold wrapF
  cases h : inR k n with
  | true => exact (inR_wrap h).symm
  | false => rfl
theorem mkI_eq (k : IntKind) (n : Int) : mkI k n = .int k (k.wrap n) := by rw [mkI, forceI_eq, wrapF_eq]

theorem half_bits (k : IntKind) : half k ≤ 2 ^ k.bits := by cases k <;> decide
theorem half_pow (k : IntKind) : ∃ m, half k = 2 ^ m := by
  cases k
  · exact ⟨7, rfl⟩
  · exact ⟨15, rfl⟩
  · exact ⟨31, rfl⟩
  · exact ⟨63, rfl⟩
  · exact ⟨8, rfl⟩
  · exact ⟨16, rfl⟩
  · exact ⟨32, rfl⟩
  · exact ⟨64, rfl⟩
theorem bv_nat (w a : Nat) (h : a < 2 ^ w) : (BitVec.ofInt w (a : Int)).toNat = a := by
  rw [BitVec.ofInt_natCast, BitVec.toNat_ofNat, Nat.mod_eq_of_lt h]

theorem bits_run {P : Program} {op : BinOp} {k : IntKind} {x y : Int} (hop : op = .and ∨ op = .or ∨ op = .xor ∨ op = .andNot) (w : World) :
    (Op.intBits op k x y).run P w = .ok (.int k (bitsS op k x y)) w := by
  rcases hop with rfl | rfl | rfl | rfl <;> rfl
theorem bitsI_eq {op : BinOp} {k : IntKind} {x y : Int} (hop : op = .and ∨ op = .or ∨ op = .xor ∨ op = .andNot) : bitsI op k x y = .int k (bitsS op k x y) := by
  have gen : op ≠ .andNot → ∀ a b : Nat, x = (a : Int) → y = (b : Int) → a < half k → b < half k → (natBits op a b : Int) = bitsS op k x y := by
    intro hne a b hx hy ha hb
    subst hx hy
    obtain ⟨m, hm⟩ := half_pow k
    have h2 := half_bits k
    have hn : natBits op a b < half k := by
      rcases hop with rfl | rfl | rfl | rfl
      · exact Nat.lt_of_le_of_lt Nat.and_le_left ha
      · rw [hm]; exact Nat.or_lt_two_pow (hm ▸ ha) (hm ▸ hb)
      · rw [hm]; exact Nat.xor_lt_two_pow (hm ▸ ha) (hm ▸ hb)
      · exact absurd rfl hne
    have hw : k.wrap (natBits op a b : Int) = natBits op a b := inR_wrap ((inR_nat _ _).trans (decide_eq_true hn))
    rw [← hw]
    rcases hop with rfl | rfl | rfl | rfl
    · show _ = k.wrap _; rw [BitVec.toNat_and, bv_nat _ a (by omega), bv_nat _ b (by omega)]; rfl
    · show _ = k.wrap _; rw [BitVec.toNat_or, bv_nat _ a (by omega), bv_nat _ b (by omega)]; rfl
    · show _ = k.wrap _; rw [BitVec.toNat_xor, bv_nat _ a (by omega), bv_nat _ b (by omega)]; rfl
    · exact absurd rfl hne
  unfold bitsI
  split
  · simp only [forceI_eq]
  · rename_i a b hne
    simp only [nblt, forceN_eq, forceI_eq]
    cases hc : (decide (a < half k) && decide (b < half k)) with
    | false => rfl
    | true =>
      simp only [Bool.and_eq_true, decide_eq_true_eq] at hc
      have := gen hne a b rfl rfl hc.1 hc.2
      simp only [cond_true]
      rw [← this]; rfl
  · simp only [forceI_eq]

theorem binI_run {P : Program} {op : BinOp} {k : IntKind} {a b : Int} {v : AV} (h : binI op k a b = some v) (hs : op ≠ .shl) (hs' : op ≠ .shr) (w : World) :
    ∃ x, (binOp op 0 (.int k a) (.int k b)).run P w = .ok x w ∧ ∀ ρ, VRel ρ v x := by
  cases op <;> simp only [binI, Option.some.injEq] at h
  case add => subst h; exact ⟨_, by simp [binOp, Op.intArith]; rfl, fun ρ => by rw [mkI_eq]; simp only [VRel]; rfl⟩
  case sub => subst h; exact ⟨_, by simp [binOp, Op.intArith]; rfl, fun ρ => by rw [mkI_eq]; simp only [VRel]; rfl⟩
  case mul => subst h; exact ⟨_, by simp [binOp, Op.intArith]; rfl, fun ρ => by rw [mkI_eq]; simp only [VRel]; rfl⟩
  case quo =>
    rw [eqI_eq] at h
    by_cases hb : b = 0
    · subst hb; simp at h
    · have : decide (b = Int.ofNat 0) = false := by simpa using hb
      rw [this] at h; simp only [cond_false, Option.some.injEq] at h; subst h
      exact ⟨_, by simp [binOp, Op.intDiv, hb]; rfl, fun ρ => by simp [mkI_eq, VRel]⟩
  case rem =>
    rw [eqI_eq] at h
    by_cases hb : b = 0
    · subst hb; simp at h
    · have : decide (b = Int.ofNat 0) = false := by simpa using hb
      rw [this] at h; simp only [cond_false, Option.some.injEq] at h; subst h
      exact ⟨_, by simp [binOp, Op.intDiv, hb]; rfl, fun ρ => by simp [forceI_eq, VRel]⟩
  case eql => subst h; exact ⟨_, by simp [binOp, Op.intCmp]; rfl, fun ρ => by simp [eqI_eq, VRel]; rfl⟩
  case neq => subst h; exact ⟨_, by simp [binOp, Op.intCmp]; rfl, fun ρ => by simp [eqI_eq, VRel]; rfl⟩
  case lss => subst h; exact ⟨_, by simp [binOp, Op.intCmp]; rfl, fun ρ => by simp [ltI_eq, VRel]⟩
  case leq => subst h; exact ⟨_, by simp [binOp, Op.intCmp]; rfl, fun ρ => by simp [ltI_eq, VRel, ← decide_not, Int.not_lt]⟩
  case gtr => subst h; exact ⟨_, by simp [binOp, Op.intCmp]; rfl, fun ρ => by simp [ltI_eq, VRel]⟩
  case geq => subst h; exact ⟨_, by simp [binOp, Op.intCmp]; rfl, fun ρ => by simp [ltI_eq, VRel, ← decide_not, Int.not_lt]⟩
  case and => subst h; exact ⟨_, by simp only [binOp, ne_eq, not_true_eq_false, if_false]; exact bits_run (by simp) w, fun ρ => by rw [bitsI_eq (by simp)]; simp only [VRel]⟩
  case or => subst h; exact ⟨_, by simp only [binOp, ne_eq, not_true_eq_false, if_false]; exact bits_run (by simp) w, fun ρ => by rw [bitsI_eq (by simp)]; simp only [VRel]⟩
  case xor => subst h; exact ⟨_, by simp only [binOp, ne_eq, not_true_eq_false, if_false]; exact bits_run (by simp) w, fun ρ => by rw [bitsI_eq (by simp)]; simp only [VRel]⟩
  case andNot => subst h; exact ⟨_, by simp only [binOp, ne_eq, not_true_eq_false, if_false]; exact bits_run (by simp) w, fun ρ => by rw [bitsI_eq (by simp)]; simp only [VRel]⟩
  case shl => exact absurd rfl hs
  case shr => exact absurd rfl hs'
end Go.Am
