/-
  'May' and 'Compare' of the value's package, the functions below them taken as known.
-/
import Derived.Test.YtpejppacnecbfaaDoorFns
namespace Go.Proofs.YtpejppacnecbfaaDoor.fns
open Go Go.Am Go.Proofs.YtpejppacnecbfaaDoor.laid
set_option linter.unusedVariables false
set_option linter.unusedSimpArgs false

def q18 (l : List AV) (S : AS) : Option (AV × AS) := match l with | [.int .i64 n] => some (.agg [.int .i64 1, .int .i64 n, .str [], .bool false], S) | _ => none
def q19 (l : List AV) (S : AS) : Option (AV × AS) := match l with | [.str s] => some (.agg [.int .i64 2, .int .i64 0, .str s, .bool false], S) | _ => none
def q20 (l : List AV) (S : AS) : Option (AV × AS) := match l with | [.bool b] => some (.agg [.int .i64 3, .int .i64 0, .str [], .bool b], S) | _ => none
def q21 (l : List AV) (S : AS) : Option (AV × AS) := match l with | [.agg [.int .i64 k, .int .i64 n, .str s, .bool b]] => some (hasV k n s b, S) | _ => none
def q25 (l : List AV) (S : AS) : Option (AV × AS) := match l with | [.bool b] => some (.int .i64 (rankI b), S) | _ => none
def q22 (l : List AV) (S : AS) : Option (AV × AS) := match l with | [.int .i64 a, .int .i64 b] => some (.int .i64 (cmpI a b), S) | _ => none
noncomputable def q24 (l : List AV) (S : AS) : Option (AV × AS) := match l with | [.str a, .str b] => some (.int .i64 (cmpS a b), S) | _ => none
noncomputable def q10 (l : List AV) (S : AS) : Option (AV × AS) := match l with | [.agg [.int .i64 k, .int .i64 n, .str s, .bool b]] => some (.bool (mayB k n s b), S) | _ => none
noncomputable def q12 (l : List AV) (S : AS) : Option (AV × AS) := match l with
  | [.agg [.int .i64 k, .int .i64 n, .str s, .bool b], .agg [.int .i64 k', .int .i64 n', .str s', .bool b']] => some (.int .i64 (cmpV k n s b k' n' s' b'), S)
  | _ => none

section
variable {Λ : LB}
theorem readyB : Ready P B0 := ready B0 rfl rfl
theorem noP : ∀ x, x ∈ B0.prims → PrimOk Λ P x.1 x.2 := fun _ h => by cases h
theorem noG : ∀ x, x ∈ B0.globs → GlobOk Λ.w Λ.B x.1 x.2 := fun _ h => by cases h
theorem p18 : PrimOk Λ P 18 q18 := by
  refine prim_flat readyB noP noG 2 fun l S v S' hq => ?_
  unfold q18 at hq
  split at hq
  · simp only [Option.some.injEq, Prod.mk.injEq] at hq
    obtain ⟨rfl, rfl⟩ := hq
    exact ⟨rfl, rfl, number _ _⟩
  · cases hq
theorem p19 : PrimOk Λ P 19 q19 := by
  refine prim_flat readyB noP noG 2 fun l S v S' hq => ?_
  unfold q19 at hq
  split at hq
  · simp only [Option.some.injEq, Prod.mk.injEq] at hq
    obtain ⟨rfl, rfl⟩ := hq
    exact ⟨rfl, rfl, word _ _⟩
  · cases hq
theorem p20 : PrimOk Λ P 20 q20 := by
  refine prim_flat readyB noP noG 2 fun l S v S' hq => ?_
  unfold q20 at hq
  split at hq
  · simp only [Option.some.injEq, Prod.mk.injEq] at hq
    obtain ⟨rfl, rfl⟩ := hq
    exact ⟨rfl, rfl, truth _ _⟩
  · cases hq
theorem p21 : PrimOk Λ P 21 q21 := by
  refine prim_flat readyB noP noG 2 fun l S v S' hq => ?_
  unfold q21 at hq
  split at hq
  · rename_i k n s b
    simp only [Option.some.injEq, Prod.mk.injEq] at hq
    obtain ⟨rfl, rfl⟩ := hq
    refine ⟨rfl, ?_, has _ _ _ _ _⟩
    unfold hasV
    split
    · rfl
    · split
      · rfl
      · split <;> rfl
  · cases hq
theorem p25 : PrimOk Λ P 25 q25 := by
  refine prim_flat readyB noP noG 2 fun l S v S' hq => ?_
  unfold q25 at hq
  split at hq
  · simp only [Option.some.injEq, Prod.mk.injEq] at hq
    obtain ⟨rfl, rfl⟩ := hq
    exact ⟨rfl, rfl, rank _ _⟩
  · cases hq
theorem p22 : PrimOk Λ P 22 q22 := by
  refine prim_flat readyB noP noG 2 fun l S v S' hq => ?_
  unfold q22 at hq
  split at hq
  · simp only [Option.some.injEq, Prod.mk.injEq] at hq
    obtain ⟨rfl, rfl⟩ := hq
    exact ⟨rfl, rfl, cmp22 _ _ _⟩
  · cases hq
theorem p23 : PrimOk Λ P 23 q22 := by
  refine prim_flat readyB noP noG 2 fun l S v S' hq => ?_
  unfold q22 at hq
  split at hq
  · simp only [Option.some.injEq, Prod.mk.injEq] at hq
    obtain ⟨rfl, rfl⟩ := hq
    exact ⟨rfl, rfl, cmp23 _ _ _⟩
  · cases hq
theorem p24 : PrimOk Λ P 24 q24 := by
  refine prim_flat readyB noP noG 2 fun l S v S' hq => ?_
  unfold q24 at hq
  split at hq
  · simp only [Option.some.injEq, Prod.mk.injEq] at hq
    obtain ⟨rfl, rfl⟩ := hq
    exact ⟨rfl, rfl, cmp24 _ _ _⟩
  · cases hq
theorem p11 : PrimOk Λ P 11 q10 := by
  refine prim_flat readyB noP noG 2 fun l S v S' hq => ?_
  unfold q10 at hq
  split at hq
  · simp only [Option.some.injEq, Prod.mk.injEq] at hq
    obtain ⟨rfl, rfl⟩ := hq
    exact ⟨rfl, rfl, refMay _ _ _ _ _⟩
  · cases hq
theorem p13 : PrimOk Λ P 13 q12 := by
  refine prim_flat readyB noP noG 2 fun l S v S' hq => ?_
  unfold q12 at hq
  split at hq
  · simp only [Option.some.injEq, Prod.mk.injEq] at hq
    obtain ⟨rfl, rfl⟩ := hq
    exact ⟨rfl, rfl, refCompare _ _ _ _ _ _ _ _ _⟩
  · cases hq
end

/-! ### One level up -/
noncomputable abbrev B1 : Am.Ask := { eqs := laid.A0.eqs, exts := laid.A0.exts, prims := [(18, q18), (19, q19), (20, q20), (21, q21), (22, q22), (23, q22), (24, q24), (25, q25)] }
noncomputable abbrev C1 : Am.Cx := Am.mkCx P B1
theorem ex1 (f : Nat) (h1 : (f == 47) = false) (h2 : (f == 63) = false) : C1.exts.get f = none := ex0 f h1 h2
section
variable {S : AS} {Q : AV → AS → Prop}
theorem c18 {n : Int} : CallW C1 18 [.int .i64 n] S Q = Q (.agg [.int .i64 1, .int .i64 n, .str [], .bool false]) S := callW_prim (q := q18) (by kernel_rfl) rfl
theorem c19 {s : List Nat} : CallW C1 19 [.str s] S Q = Q (.agg [.int .i64 2, .int .i64 0, .str s, .bool false]) S := callW_prim (q := q19) (by kernel_rfl) rfl
theorem c20 {b : Bool} : CallW C1 20 [.bool b] S Q = Q (.agg [.int .i64 3, .int .i64 0, .str [], .bool b]) S := callW_prim (q := q20) (by kernel_rfl) rfl
theorem c21 {k n : Int} {s : List Nat} {b : Bool} : CallW C1 21 [.agg [.int .i64 k, .int .i64 n, .str s, .bool b]] S Q = Q (hasV k n s b) S := callW_prim (q := q21) (by kernel_rfl) rfl
theorem c22 {a b : Int} : CallW C1 22 [.int .i64 a, .int .i64 b] S Q = Q (.int .i64 (cmpI a b)) S := callW_prim (q := q22) (by kernel_rfl) rfl
theorem c23 {a b : Int} : CallW C1 23 [.int .i64 a, .int .i64 b] S Q = Q (.int .i64 (cmpI a b)) S := callW_prim (q := q22) (by kernel_rfl) rfl
theorem c24 {a b : List Nat} : CallW C1 24 [.str a, .str b] S Q = Q (.int .i64 (cmpS a b)) S := callW_prim (q := q24) (by kernel_rfl) rfl
theorem c25 {b : Bool} : CallW C1 25 [.bool b] S Q = Q (.int .i64 (rankI b)) S := callW_prim (q := q25) (by kernel_rfl) rfl
end
/-- Two values are alike. -/
noncomputable def sameB (k n : Int) (s : List Nat) (b : Bool) (k' n' : Int) (s' : List Nat) (b' : Bool) : Bool := decide (k = k') && (decide (n = n') && (eqS s s' && (b == b')))
def andS (a r : Option Bool) : Option Bool := match a with | some true => r | x => x
theorem eqv23 (A : Am.Ask) (hA : A.eqs = laid.A0.eqs) (c : Bool) (k n : Int) (s : List Nat) (b : Bool) (k' n' : Int) (s' : List Nat) (b' : Bool) :
    binV (mkCx P A) .eql 23 c (.agg [.int .i64 k, .int .i64 n, .str s, .bool b]) (.agg [.int .i64 k', .int .i64 n', .str s', .bool b']) = some (.bool (sameB k n s b k' n' s' b')) := by
  obtain ⟨eqs, x, p, g⟩ := A
  have hA' : eqs = laid.A0.eqs := hA
  subst hA'
  refine bin_eql_agg ?_
  have e : eqV (mkCx P ⟨laid.A0.eqs, x, p, g⟩) 23 c (.agg [.int .i64 k, .int .i64 n, .str s, .bool b]) (.agg [.int .i64 k', .int .i64 n', .str s', .bool b']) =
      andS (some (eqI k k')) (andS (some (eqI n n')) (andS (some (eqS s s')) (andS (some (b == b')) (some true)))) := by kernel_rfl
  rw [e, eqI_eq, eqI_eq]
  unfold sameB andS
  cases decide (k = k') <;> cases decide (n = n') <;> cases eqS s s' <;> cases (b == b') <;> rfl
theorem eqC1 {c : Bool} {k n : Int} {s : List Nat} {b : Bool} {k' n' : Int} {s' : List Nat} {b' : Bool} :
    binV C1 .eql 23 c (.agg [.int .i64 k, .int .i64 n, .str s, .bool b]) (.agg [.int .i64 k', .int .i64 n', .str s', .bool b']) = some (.bool (sameB k n s b k' n' s' b')) := eqv23 B1 rfl ..
theorem eqS_refl (s : List Nat) : eqS s s = true := eqS_self s
theorem fn10 : C1.fns.get 10 = some Tryd.f10 := by kernel_rfl
theorem pr10 : C1.prims.get 10 = none := by kernel_rfl
theorem ok10 : codeOk C1 Tryd.f10.ntmps (Tryd.f10.body.getD .skip) = true := by kernel_rfl
theorem nt10 : Tryd.f10.ntmps = 34 := by kernel_rfl
set_option maxHeartbeats 4000000 in
theorem mayIs (k n : Int) (s : List Nat) (b : Bool) (S : AS) : CallW C1 10 [.agg [.int .i64 k, .int .i64 n, .str s, .bool b]] S fun v T => v = .bool (mayB k n s b) ∧ Sub S T := by
  refine enterW pr10 fn10 rfl ok10 (by simp) fun F hn hs => ?_
  rw [nt10] at hn
  have s0 := hs 0
  clear hs
  simp only [List.getElem?_cons_zero, Option.getD_some] at s0
  by_cases h1 : k = 1
  · have hh : hasV k n s b = .iface 2 (.int .i64 n) := by simp [hasV, h1]
    have hr : sameB k n s b 1 n [] false = mayB k n s b := by simp [sameB, mayB, h1]
    simp [s0, hh, ex1, agg23, sz23, agg2, agg4, agg9, conc2, conc4, conc9, zero2, zero4, zero9, c18, c19, c20, c21, eqC1]
    refine still_ok (n := 34) (by kernel_rfl) (by simp [hn]) ?_
    simp [s0, hh, ex1, agg23, sz23, agg2, agg4, agg9, conc2, conc4, conc9, zero2, zero4, zero9, c18, c19, c20, c21, eqC1, hr, sub1]
  by_cases h2 : k = 2
  · have hh : hasV k n s b = .iface 9 (.str s) := by simp [hasV, h2]
    have c1 : ((s.length : Nat) : Int) ≤ 32 ↔ s.length ≤ 32 := by omega
    simp [s0, hh, ex1, agg23, sz23, agg2, agg4, agg9, conc2, conc4, conc9, zero2, zero4, zero9, c18, c19, c20, c21, eqC1]
    refine still_ok (n := 34) (by kernel_rfl) (by simp [hn]) ?_
    cases hb : sameB k n s b 2 0 s false with
    | true =>
      have hr : decide (((s.length : Nat) : Int) ≤ 32) = mayB k n s b := by
        simp [sameB, h2, eqS_refl] at hb
        simp [mayB, h2, hb, c1]
      simp [s0, hh, ex1, agg23, sz23, agg2, agg4, agg9, conc2, conc4, conc9, zero2, zero4, zero9, c18, c19, c20, c21, eqC1, hb, len_str (und9 _), hr, sub1]
    | false =>
      have hr : mayB k n s b = false := by
        simp [sameB, h2, eqS_refl] at hb
        simp [mayB, h2]
        intro _ hn0
        simpa using hb hn0
      simp [s0, hh, ex1, agg23, sz23, agg2, agg4, agg9, conc2, conc4, conc9, zero2, zero4, zero9, c18, c19, c20, c21, eqC1, hb, hr, sub1]
  by_cases h3 : k = 3
  · have hh : hasV k n s b = .iface 4 (.bool b) := by simp [hasV, h3]
    have hr : sameB k n s b 3 0 [] b = mayB k n s b := by simp [sameB, mayB, h3]
    simp [s0, hh, ex1, agg23, sz23, agg2, agg4, agg9, conc2, conc4, conc9, zero2, zero4, zero9, c18, c19, c20, c21, eqC1]
    refine still_ok (n := 34) (by kernel_rfl) (by simp [hn]) ?_
    simp [s0, hh, ex1, agg23, sz23, agg2, agg4, agg9, conc2, conc4, conc9, zero2, zero4, zero9, c18, c19, c20, c21, eqC1, hr, sub1]
  have hh : hasV k n s b = .niface := by simp [hasV, h1, h2, h3]
  have hr : mayB k n s b = false := by simp [mayB, h1, h2, h3]
  simp [s0, hh, ex1, agg23, sz23, agg2, agg4, agg9, conc2, conc4, conc9, zero2, zero4, zero9, c18, c19, c20, c21, eqC1, hr, sub1]
theorem fn12 : C1.fns.get 12 = some Tryd.f12 := by kernel_rfl
theorem pr12 : C1.prims.get 12 = none := by kernel_rfl
theorem ok12 : codeOk C1 Tryd.f12.ntmps (Tryd.f12.body.getD .skip) = true := by kernel_rfl
theorem nt12 : Tryd.f12.ntmps = 43 := by kernel_rfl
set_option maxHeartbeats 4000000 in
theorem compareIs (k n : Int) (s : List Nat) (b : Bool) (k' n' : Int) (s' : List Nat) (b' : Bool) (S : AS) :
    CallW C1 12 [.agg [.int .i64 k, .int .i64 n, .str s, .bool b], .agg [.int .i64 k', .int .i64 n', .str s', .bool b']] S fun v T => v = .int .i64 (cmpV k n s b k' n' s' b') ∧ Sub S T := by
  refine enterW pr12 fn12 rfl ok12 (by simp) fun F hn hs => ?_
  rw [nt12] at hn
  have s0 := hs 0
  have s1 := hs 1
  clear hs
  simp only [List.getElem?_cons_zero, List.getElem?_cons_succ, Option.getD_some] at s0 s1
  unfold cmpV
  by_cases hk : k = k'
  · subst hk
    by_cases h1 : k = 1
    · subst h1
      have hh : hasV 1 n s b = .iface 2 (.int .i64 n) := by simp [hasV]
      simp [s0, s1, hh, ex1, f0, f1, f2, f3, agg2, agg3, agg4, agg9, agg23, sz23, conc2, conc4, conc9, zero2, zero4, zero9, c21, c22, c23, c24, c25, sub2]
    by_cases h2 : k = 2
    · subst h2
      have hh : hasV 2 n s b = .iface 9 (.str s) := by simp [hasV]
      simp [s0, s1, hh, ex1, f0, f1, f2, f3, agg2, agg3, agg4, agg9, agg23, sz23, conc2, conc4, conc9, zero2, zero4, zero9, c21, c22, c23, c24, c25, sub2]
    by_cases h3 : k = 3
    · subst h3
      have hh : hasV 3 n s b = .iface 4 (.bool b) := by simp [hasV]
      simp [s0, s1, hh, ex1, f0, f1, f2, f3, agg2, agg3, agg4, agg9, agg23, sz23, conc2, conc4, conc9, zero2, zero4, zero9, c21, c22, c23, c24, c25, sub2]
      refine still_ok (n := 43) (by kernel_rfl) (by simp [hn]) ?_
      simp [s0, s1, hh, ex1, f0, f1, f2, f3, agg2, agg3, agg4, agg9, agg23, sz23, conc2, conc4, conc9, zero2, zero4, zero9, c21, c22, c23, c24, c25, sub2]
    have hh : hasV k n s b = .niface := by simp [hasV, h1, h2, h3]
    simp [s0, s1, h1, h2, h3, hh, ex1, f0, f1, f2, f3, agg2, agg3, agg4, agg9, agg23, sz23, conc2, conc4, conc9, zero2, zero4, zero9, c21, c22, c23, c24, c25, sub2]
  · simp [s0, s1, hk, ex1, f0, f1, f2, f3, agg2, agg3, agg4, agg9, agg23, sz23, conc2, conc4, conc9, zero2, zero4, zero9, c21, c22, c23, c24, c25, sub2]
end Go.Proofs.YtpejppacnecbfaaDoor.fns
