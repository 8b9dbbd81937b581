/-
  'ValueMakes' run symbolically.
-/
import Derived.Test.YtpejppacnecbfaaDoorLaws
namespace Go.Proofs.YtpejppacnecbfaaDoor.fns
open Go Go.Am Go.RowKit Go.ChangeShapes Go.WideShapes Go.ChangeAt Go.Proofs.YtpejppacnecbfaaDoor.laid
set_option linter.unusedVariables false
set_option linter.unusedSimpArgs false

/-! ### ValueMakes -/
theorem fn7 : C2.fns.get 7 = some Tryd.f7 := by kernel_rfl
theorem pr7 : C2.prims.get 7 = none := by kernel_rfl
theorem ok7 : codeOk C2 Tryd.f7.ntmps (Tryd.f7.body.getD .skip) = true := by kernel_rfl
theorem nt7 : Tryd.f7.ntmps = 94 := by kernel_rfl
section
variable (A : Am.Ask)
theorem g0 : fieldAt (mkCx P A) 40 0 = some 0 := by kernel_rfl
theorem g1 : fieldAt (mkCx P A) 40 1 = some 1 := by kernel_rfl
theorem g2 : fieldAt (mkCx P A) 40 2 = some 2 := by kernel_rfl
theorem g3 : fieldAt (mkCx P A) 40 3 = some 3 := by kernel_rfl
theorem g4 : fieldAt (mkCx P A) 40 4 = some 4 := by kernel_rfl
theorem fld3 (k n : Int) (s : List Nat) (b : Bool) : fieldOf (mkCx P A) 23 3 [.int .i64 k, .int .i64 n, .str s, .bool b] = some (.bool b) := by kernel_rfl
end
set_option maxHeartbeats 4000000 in
theorem lawMakes (n m : Int) (s t : List Nat) (b : Bool) (S : AS) :
    CallW C2 7 [.agg [.int .i64 n, .int .i64 m, .str s, .str t, .bool b]] S fun v T => v = .bool true := by
  refine enterW pr7 fn7 rfl ok7 (by simp) fun F hn hs => ?_
  rw [nt7] at hn
  have s0 := hs 0
  clear hs
  simp only [List.getElem?_cons_zero, List.getElem?_cons_succ, Option.getD_some] at s0
  have m1 : mayB 1 n [] false = true := by simp [mayB, eqS_refl]
  have m2 : mayB 3 0 [] b = true := by simp [mayB, eqS_refl]
  have m3 : mayB 2 0 s false = decide (s.length ≤ 32) := by simp [mayB]
  have l32 : decide (((s.length : Nat) : Int) ≤ 32) = decide (s.length ≤ 32) := by
    by_cases h : s.length ≤ 32
    · have : ((s.length : Nat) : Int) ≤ 32 := by omega
      simp [h, this]
    · have : ¬ ((s.length : Nat) : Int) ≤ 32 := by omega
      simp [h, this]
  have c1 : cmpV 1 n [] false 1 m [] false = cmpI n m := by simp [cmpV]
  have c2 : cmpV 2 0 s false 2 0 t false = cmpS s t := by simp [cmpV]
  have c3 : cmpV 1 n [] false 2 0 s false = -1 := by simp [cmpV, cmpI]
  have c4 : cmpV 2 0 s false 3 0 [] b = -1 := by simp [cmpV, cmpI]
  simp [s0]
  refine still_ok (n := 94) (by kernel_rfl) (by simp [hn]) ?_
  simp [s0, ex2, g0, g1, g2, g3, g4, fld3, agg2, agg4, agg9, agg23, sz23, zero23, und4, d9, d10, d12, d18, d19, d20, m1, m2, m3, l32, eqS_refl, len_str (und9 _), f1, f2, f3, c1, c2, c3, c4]
  refine still_ok (n := 94) (by kernel_rfl) (by simp [hn]) ?_
  have i1 : decide (cmpI n m < 0) = decide (n < m) := by
    unfold cmpI
    by_cases h1 : n < m
    · simp [h1]
    · by_cases h2 : m < n <;> simp [h1, h2]
  have i2 : decide (cmpS s t < 0) = ltS s t := by
    rcases lt_tri s t with ⟨x1, x2, x3⟩ | ⟨x1, x2, x3⟩ | ⟨x1, x2, x3⟩ <;> simp [cmpS, x1, x2]
  simp [s0, ex2, g0, g1, g2, g3, g4, fld3, agg2, agg4, agg9, agg23, sz23, zero23, und4, d9, d10, d12, d18, d19, d20, m1, m2, m3, l32, eqS_refl, len_str (und9 _), f1, f2, f3, c1, c2, c3, c4, i1, i2]
  refine still_ok (n := 94) (by kernel_rfl) (by simp [hn]) ?_
  simp [s0, ex2, g0, g1, g2, g3, g4, fld3, agg2, agg4, agg9, agg23, sz23, zero23, und4, d9, d10, d12, d18, d19, d20, m1, m2, m3, l32, eqS_refl, len_str (und9 _), f1, f2, f3, c1, c2, c3, c4, i1, i2]
end Go.Proofs.YtpejppacnecbfaaDoor.fns
