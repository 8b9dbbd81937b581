/-
  The laws of the value's package over its values: run symbolically.
-/
import Derived.Test.YtpejppacnecbfaaDoorOrder
namespace Go.Proofs.YtpejppacnecbfaaDoor.fns
open Go Go.Am Go.RowKit Go.ChangeShapes Go.WideShapes Go.ChangeAt Go.Proofs.YtpejppacnecbfaaDoor.laid
set_option linter.unusedVariables false
set_option linter.unusedSimpArgs false

/-! ### What is known -/
theorem awakeSays : true = Am.says P laid.A0 1000000 9 true := by kernel_rfl
section
variable {W : World}
theorem readyB1 : Ready P B1 := ready B1 rfl rfl
theorem prims1 {Λ : LB} : ∀ x, x ∈ B1.prims → PrimOk Λ P x.1 x.2 := by
  intro x hx
  simp only [B1, List.mem_cons, List.not_mem_nil, or_false] at hx
  rcases hx with rfl | rfl | rfl | rfl | rfl | rfl | rfl | rfl
  · exact p18
  · exact p19
  · exact p20
  · exact p21
  · exact p22
  · exact p23
  · exact p24
  · exact p25
theorem noG1 {Λ : LB} : ∀ x, x ∈ B1.globs → GlobOk Λ.w Λ.B x.1 x.2 := fun _ h => by cases h
theorem p10 {Λ : LB} : PrimOk Λ P 10 q10 := by
  refine prim_flat readyB1 prims1 noG1 2 fun l S v S' hq => ?_
  unfold q10 at hq
  split at hq
  · simp only [Option.some.injEq, Prod.mk.injEq] at hq
    obtain ⟨rfl, rfl⟩ := hq
    exact ⟨rfl, rfl, mayIs _ _ _ _ _⟩
  · cases hq
theorem p12 {Λ : LB} : PrimOk Λ P 12 q12 := by
  refine prim_flat readyB1 prims1 noG1 2 fun l S v S' hq => ?_
  unfold q12 at hq
  split at hq
  · simp only [Option.some.injEq, Prod.mk.injEq] at hq
    obtain ⟨rfl, rfl⟩ := hq
    exact ⟨rfl, rfl, compareIs _ _ _ _ _ _ _ _ _⟩
  · cases hq
theorem p9 (hg : ∀ x, x ∈ laid.A0.globs → GlobOk W laid.B x.1 x.2) : PrimOk ⟨W, laid.B⟩ P 9 (boolQ true) := by
  intro ρ l S w args v S' hR hl hq
  cases l with
  | cons x xs => cases hq
  | nil =>
    cases hq
    simp only [LRel] at hl
    have : args = #[] := Array.ext' (by simpa using hl)
    subst this
    refine ⟨⟨_, Tryd.func9, by kernel_rfl⟩, (call_bool_at (Λ := ⟨W, laid.B⟩) (ready laid.A0 rfl rfl) (fun x hx => by cases hx) hg 1000000 9 true awakeSays w hR.start (fun b hb => ⟨(hR.base b hb).1, (hR.base b hb).2.1⟩)).mono fun e w' he => ?_⟩
    obtain ⟨h1, h2⟩ := hR.below he.2
    exact ⟨.bool true, ρ, he.1, by simp [VRel], h1, h2⟩
end
noncomputable abbrev B2 : Am.Ask := { eqs := laid.A0.eqs, exts := laid.A0.exts, prims := [(9, boolQ true), (10, q10), (11, q10), (12, q12), (13, q12), (18, q18), (19, q19), (20, q20)] }
noncomputable abbrev C2 : Am.Cx := Am.mkCx P B2
theorem readyB2 : Ready P B2 := ready B2 rfl rfl
theorem prims2 {W : World} (hg : ∀ x, x ∈ laid.A0.globs → GlobOk W laid.B x.1 x.2) : ∀ x, x ∈ B2.prims → PrimOk ⟨W, laid.B⟩ P x.1 x.2 := by
  intro x hx
  simp only [B2, List.mem_cons, List.not_mem_nil, or_false] at hx
  rcases hx with rfl | rfl | rfl | rfl | rfl | rfl | rfl | rfl
  · exact p9 hg
  · exact p10
  · exact p11
  · exact p12
  · exact p13
  · exact p18
  · exact p19
  · exact p20
/-- A law over arguments without addresses, the package-level variables standing. -/
theorem law_at {W : World} (hg : ∀ x, x ∈ laid.A0.globs → GlobOk W laid.B x.1 x.2) {f : FuncId} {vals : List AV} {args : Array Value} (hl : ∀ ρ, LRel ρ vals args.toList)
    (hc : CallW C2 f vals ⟨.leaf, 0⟩ fun v _ => v = .bool true) : Calls P f args W fun e w' => e = .returned (.bool true) ∧ Below W.heap.size W w' := by
  have hR := empty_R (Λ := ⟨W, laid.B⟩) W (Nat.le_refl _) (laid.base_of hg)
  refine (calls_of readyB2 (prims2 hg) (fun x hx => by cases hx) hR (hl _) hc).2.mono ?_
  rintro e w' ⟨x, v, S', ρ', rfl, h1, rfl, _, h4⟩
  simp only [VRel] at h1
  exact ⟨by rw [h1], below_of h4⟩
theorem ex2 (f : Nat) (h1 : (f == 47) = false) (h2 : (f == 63) = false) : C2.exts.get f = none := ex0 f h1 h2
section
variable {S : AS} {Q : AV → AS → Prop} {k n : Int} {s : List Nat} {b : Bool} {k' n' : Int} {s' : List Nat} {b' : Bool}
theorem d9 : CallW C2 9 [] S Q = Q (.bool true) S := callW_prim (q := boolQ true) (by kernel_rfl) rfl
theorem d10 : CallW C2 10 [.agg [.int .i64 k, .int .i64 n, .str s, .bool b]] S Q = Q (.bool (mayB k n s b)) S := callW_prim (q := q10) (by kernel_rfl) rfl
theorem d11 : CallW C2 11 [.agg [.int .i64 k, .int .i64 n, .str s, .bool b]] S Q = Q (.bool (mayB k n s b)) S := callW_prim (q := q10) (by kernel_rfl) rfl
theorem d12 : CallW C2 12 [.agg [.int .i64 k, .int .i64 n, .str s, .bool b], .agg [.int .i64 k', .int .i64 n', .str s', .bool b']] S Q = Q (.int .i64 (cmpV k n s b k' n' s' b')) S := callW_prim (q := q12) (by kernel_rfl) rfl
theorem d13 : CallW C2 13 [.agg [.int .i64 k, .int .i64 n, .str s, .bool b], .agg [.int .i64 k', .int .i64 n', .str s', .bool b']] S Q = Q (.int .i64 (cmpV k n s b k' n' s' b')) S := callW_prim (q := q12) (by kernel_rfl) rfl
theorem d18 : CallW C2 18 [.int .i64 n] S Q = Q (.agg [.int .i64 1, .int .i64 n, .str [], .bool false]) S := callW_prim (q := q18) (by kernel_rfl) rfl
theorem d19 : CallW C2 19 [.str s] S Q = Q (.agg [.int .i64 2, .int .i64 0, .str s, .bool false]) S := callW_prim (q := q19) (by kernel_rfl) rfl
theorem d20 : CallW C2 20 [.bool b] S Q = Q (.agg [.int .i64 3, .int .i64 0, .str [], .bool b]) S := callW_prim (q := q20) (by kernel_rfl) rfl
theorem eqC2 {c : Bool} : binV C2 .eql 23 c (.agg [.int .i64 k, .int .i64 n, .str s, .bool b]) (.agg [.int .i64 k', .int .i64 n', .str s', .bool b']) = some (.bool (sameB k n s b k' n' s' b')) := eqv23 B2 rfl ..
end

/-! ### ValueMay -/
theorem fn3 : C2.fns.get 3 = some Tryd.f3 := by kernel_rfl
theorem pr3 : C2.prims.get 3 = none := by kernel_rfl
theorem ok3 : codeOk C2 Tryd.f3.ntmps (Tryd.f3.body.getD .skip) = true := by kernel_rfl
theorem nt3 : Tryd.f3.ntmps = 22 := by kernel_rfl
set_option maxHeartbeats 4000000 in
theorem lawMay (k n : Int) (s : List Nat) (b : Bool) (k' n' : Int) (s' : List Nat) (b' : Bool) (S : AS) :
    CallW C2 3 [.agg [.int .i64 k, .int .i64 n, .str s, .bool b], .agg [.int .i64 k', .int .i64 n', .str s', .bool b']] S fun v T => v = .bool true := by
  refine enterW pr3 fn3 rfl ok3 (by simp) fun F hn hs => ?_
  rw [nt3] at hn
  have s0 := hs 0
  have s1 := hs 1
  clear hs
  simp only [List.getElem?_cons_zero, List.getElem?_cons_succ, Option.getD_some] at s0 s1
  simp [s0, s1]
  refine still_ok (n := 22) (by kernel_rfl) (by simp [hn]) ?_
  simp [s0, s1, ex2, agg23, sz23, und4, d9, d10, d11, d12, d13]

/-! ### ValueOrder -/
theorem fn6 : C2.fns.get 6 = some Tryd.f6 := by kernel_rfl
theorem pr6 : C2.prims.get 6 = none := by kernel_rfl
theorem ok6 : codeOk C2 Tryd.f6.ntmps (Tryd.f6.body.getD .skip) = true := by kernel_rfl
theorem nt6 : Tryd.f6.ntmps = 69 := by kernel_rfl
set_option maxHeartbeats 4000000 in
theorem lawOrder (k n : Int) (s : List Nat) (b : Bool) (k' n' : Int) (s' : List Nat) (b' : Bool) (k'' n'' : Int) (s'' : List Nat) (b'' : Bool) (S : AS) :
    CallW C2 6 [.agg [.int .i64 k, .int .i64 n, .str s, .bool b], .agg [.int .i64 k', .int .i64 n', .str s', .bool b'], .agg [.int .i64 k'', .int .i64 n'', .str s'', .bool b'']] S fun v T => v = .bool true := by
  refine enterW pr6 fn6 rfl ok6 (by simp) fun F hn hs => ?_
  rw [nt6] at hn
  have s0 := hs 0
  have s1 := hs 1
  have s2 := hs 2
  clear hs
  simp only [List.getElem?_cons_zero, List.getElem?_cons_succ, Option.getD_some] at s0 s1 s2
  have r := cmpV_range k n s b k' n' s' b'
  have anti : IntKind.i64.wrap (- cmpV k' n' s' b' k n s b) = cmpV k n s b k' n' s' b' := by
    have h := cmpV_anti k n s b k' n' s' b'
    rw [← h]
    exact IntWalk.i64_in _ (by omega)
  have self := cmpV_self k n s b
  have tr := cmpV_trans k n s b k' n' s' b' k'' n'' s'' b''
  have zr := cmpV_zero k n s b k' n' s' b'
  have r1 : ¬ cmpV k n s b k' n' s' b' < -1 := by omega
  have r2 : ¬ 1 < cmpV k n s b k' n' s' b' := by omega
  simp [s0, s1, s2]
  refine still_ok (n := 69) (by kernel_rfl) (by simp [hn]) ?_
  by_cases hp : cmpV k n s b k' n' s' b' ≤ 0
  · by_cases hq : cmpV k' n' s' b' k'' n'' s'' b'' ≤ 0
    · have tr' := tr hp hq
      cases hx : mayB k n s b with
      | false => simp [s0, s1, s2, ex2, agg23, sz23, und4, d9, d10, d11, d12, d13, anti, self, r1, r2, eqC2, hp, hq, tr', hx]
      | true =>
        cases hy : mayB k' n' s' b' with
        | false => simp [s0, s1, s2, ex2, agg23, sz23, und4, d9, d10, d11, d12, d13, anti, self, r1, r2, eqC2, hp, hq, tr', hx, hy]
        | true =>
          have hsm : sameB k n s b k' n' s' b' = decide (cmpV k n s b k' n' s' b' = 0) := by
            have := zr hx hy
            simp only [beq_iff_eq] at this
            exact this.symm
          by_cases hz : cmpV k n s b k' n' s' b' = 0
          · have hsm' : sameB k n s b k' n' s' b' = true := by rw [hsm]; simpa using hz
            simp [s0, s1, s2, ex2, agg23, sz23, und4, d9, d10, d11, d12, d13, anti, self, r1, r2, eqC2, hp, hq, tr', hx, hy, hz, hsm']
          · have hsm' : sameB k n s b k' n' s' b' = false := by rw [hsm]; simpa using hz
            simp [s0, s1, s2, ex2, agg23, sz23, und4, d9, d10, d11, d12, d13, anti, self, r1, r2, eqC2, hp, hq, tr', hx, hy, hz, hsm']
    · cases hx : mayB k n s b with
      | false => simp [s0, s1, s2, ex2, agg23, sz23, und4, d9, d10, d11, d12, d13, anti, self, r1, r2, eqC2, hp, hq, hx]
      | true =>
        cases hy : mayB k' n' s' b' with
        | false => simp [s0, s1, s2, ex2, agg23, sz23, und4, d9, d10, d11, d12, d13, anti, self, r1, r2, eqC2, hp, hq, hx, hy]
        | true =>
          have hsm : sameB k n s b k' n' s' b' = decide (cmpV k n s b k' n' s' b' = 0) := by
            have := zr hx hy
            simp only [beq_iff_eq] at this
            exact this.symm
          by_cases hz : cmpV k n s b k' n' s' b' = 0
          · have hsm' : sameB k n s b k' n' s' b' = true := by rw [hsm]; simpa using hz
            simp [s0, s1, s2, ex2, agg23, sz23, und4, d9, d10, d11, d12, d13, anti, self, r1, r2, eqC2, hp, hq, hx, hy, hz, hsm']
          · have hsm' : sameB k n s b k' n' s' b' = false := by rw [hsm]; simpa using hz
            simp [s0, s1, s2, ex2, agg23, sz23, und4, d9, d10, d11, d12, d13, anti, self, r1, r2, eqC2, hp, hq, hx, hy, hz, hsm']
  · cases hx : mayB k n s b with
    | false => simp [s0, s1, s2, ex2, agg23, sz23, und4, d9, d10, d11, d12, d13, anti, self, r1, r2, eqC2, hp, hx]
    | true =>
      cases hy : mayB k' n' s' b' with
      | false => simp [s0, s1, s2, ex2, agg23, sz23, und4, d9, d10, d11, d12, d13, anti, self, r1, r2, eqC2, hp, hx, hy]
      | true =>
        have hsm : sameB k n s b k' n' s' b' = decide (cmpV k n s b k' n' s' b' = 0) := by
          have := zr hx hy
          simp only [beq_iff_eq] at this
          exact this.symm
        by_cases hz : cmpV k n s b k' n' s' b' = 0
        · exact (hp (by omega)).elim
        · have hsm' : sameB k n s b k' n' s' b' = false := by rw [hsm]; simpa using hz
          simp [s0, s1, s2, ex2, agg23, sz23, und4, d9, d10, d11, d12, d13, anti, self, r1, r2, eqC2, hp, hx, hy, hz, hsm']
end Go.Proofs.YtpejppacnecbfaaDoor.fns
