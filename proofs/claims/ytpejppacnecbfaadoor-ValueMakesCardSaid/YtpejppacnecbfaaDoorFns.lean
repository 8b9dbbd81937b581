/-
  What the functions of the value's package, and of its reference, come to.
-/
import Derived.Test.YtpejppacnecbfaaDoorLaid
import Derived.Test.YtpejppacnecbfaaDoorAmHeap
import Derived.IntWalk
namespace Go.Proofs.YtpejppacnecbfaaDoor.fns
open Go Go.Am Go.Proofs.YtpejppacnecbfaaDoor.laid
set_option linter.unusedVariables false
set_option linter.unusedSimpArgs false

noncomputable abbrev B0 : Am.Ask := { eqs := laid.A0.eqs, exts := laid.A0.exts }
noncomputable abbrev C0 : Am.Cx := Am.mkCx P B0

/-! ### Types -/
section
variable (A : Am.Ask)
theorem und4 : und (mkCx P A) 4 = some .bool := by kernel_rfl
theorem und9 : und (mkCx P A) 9 = some .string := by kernel_rfl
theorem conc2 : conc (mkCx P A) 2 = true := by kernel_rfl
theorem conc4 : conc (mkCx P A) 4 = true := by kernel_rfl
theorem conc9 : conc (mkCx P A) 9 = true := by kernel_rfl
theorem zero2 : zeroOf (mkCx P A) 2 = some (.int .i64 0) := by kernel_rfl
theorem zero4 : zeroOf (mkCx P A) 4 = some (.bool false) := by kernel_rfl
theorem zero9 : zeroOf (mkCx P A) 9 = some (.str []) := by kernel_rfl
theorem zero23 : zeroOf (mkCx P A) 23 = some (.agg [.int .i64 0, .int .i64 0, .str [], .bool false]) := by kernel_rfl
theorem agg2 : aggOf (mkCx P A) 2 = some false := by kernel_rfl
theorem agg3 : aggOf (mkCx P A) 3 = some false := by kernel_rfl
theorem agg4 : aggOf (mkCx P A) 4 = some false := by kernel_rfl
theorem agg9 : aggOf (mkCx P A) 9 = some false := by kernel_rfl
theorem agg23 : aggOf (mkCx P A) 23 = some true := by kernel_rfl
theorem sz23 : szOf (mkCx P A) 23 = some 4 := by kernel_rfl
theorem f0 : fieldAt (mkCx P A) 23 0 = some 0 := by kernel_rfl
theorem f1 : fieldAt (mkCx P A) 23 1 = some 1 := by kernel_rfl
theorem f2 : fieldAt (mkCx P A) 23 2 = some 2 := by kernel_rfl
theorem f3 : fieldAt (mkCx P A) 23 3 = some 3 := by kernel_rfl
theorem build1 (n : Int) : buildA (mkCx P A) 23 [(0, .int .i64 1), (1, .int .i64 n)] = some (.agg [.int .i64 1, .int .i64 n, .str [], .bool false]) := by kernel_rfl
theorem build2 (s : List Nat) : buildA (mkCx P A) 23 [(0, .int .i64 2), (2, .str s)] = some (.agg [.int .i64 2, .int .i64 0, .str s, .bool false]) := by kernel_rfl
theorem build3 (b : Bool) : buildA (mkCx P A) 23 [(0, .int .i64 3), (3, .bool b)] = some (.agg [.int .i64 3, .int .i64 0, .str [], .bool b]) := by kernel_rfl
end
theorem ex0 (f : Nat) (h1 : (f == 47) = false) (h2 : (f == 63) = false) : C0.exts.get f = none := by
  have h1 : ¬ f = 47 := by simpa using h1
  have h2 : ¬ f = 63 := by simpa using h2
  have e : C0.exts = (((.leaf : T Xf).set 63 .ident).set 47 .cmpstr) ∨ C0.exts = (((.leaf : T Xf).set 47 .cmpstr).set 63 .ident) := by
    first | exact .inl (by kernel_rfl) | exact .inr (by kernel_rfl)
  rcases e with e | e <;> rw [e] <;> simp [h1, h2, get_leaf]

theorem sub_set {S : AS} {h : T AObj} {n : Nat} (h1 : ∀ id, id < S.next → h.get id = S.h.get id) (h2 : S.next ≤ n) : Sub S ⟨h, n⟩ := ⟨h1, h2⟩
theorem sub1 {S : AS} {o : AObj} : Sub S ⟨S.h.set S.next o, S.next + 1⟩ := (Sub.refl S).set _ _ (Nat.le_refl _) _ (Nat.le_succ _)
theorem sub1s {S : AS} {o o' : AObj} : Sub S ⟨(S.h.set S.next o).set S.next o', S.next + 1⟩ := sub1.set _ _ (Nat.le_refl _) _ (Nat.le_refl _)
theorem sub2 {S : AS} {o o' : AObj} : Sub S ⟨(S.h.set S.next o).set (S.next + 1) o', S.next + 2⟩ := sub1.set _ _ (Nat.le_succ _) _ (Nat.le_succ _)

/-! ### The constructors -/
theorem fn18 : C0.fns.get 18 = some Tryd.f18 := by kernel_rfl
theorem pr18 : C0.prims.get 18 = none := by kernel_rfl
theorem ok18 : codeOk C0 Tryd.f18.ntmps (Tryd.f18.body.getD .skip) = true := by kernel_rfl
theorem number (n : Int) (S : AS) : CallW C0 18 [.int .i64 n] S fun v T => v = .agg [.int .i64 1, .int .i64 n, .str [], .bool false] ∧ Sub S T := by
  refine enterW pr18 fn18 rfl ok18 (by simp) fun F hn hs => ?_
  have s0 := hs 0
  clear hs
  simp only [List.getElem?_cons_zero, Option.getD_some] at s0
  simp [s0, zero23, build1, sz23, agg23, sub1s]
theorem fn19 : C0.fns.get 19 = some Tryd.f19 := by kernel_rfl
theorem pr19 : C0.prims.get 19 = none := by kernel_rfl
theorem ok19 : codeOk C0 Tryd.f19.ntmps (Tryd.f19.body.getD .skip) = true := by kernel_rfl
theorem word (s : List Nat) (S : AS) : CallW C0 19 [.str s] S fun v T => v = .agg [.int .i64 2, .int .i64 0, .str s, .bool false] ∧ Sub S T := by
  refine enterW pr19 fn19 rfl ok19 (by simp) fun F hn hs => ?_
  have s0 := hs 0
  clear hs
  simp only [List.getElem?_cons_zero, Option.getD_some] at s0
  simp [s0, zero23, build2, sz23, agg23, sub1s]
theorem fn20 : C0.fns.get 20 = some Tryd.f20 := by kernel_rfl
theorem pr20 : C0.prims.get 20 = none := by kernel_rfl
theorem ok20 : codeOk C0 Tryd.f20.ntmps (Tryd.f20.body.getD .skip) = true := by kernel_rfl
theorem truth (b : Bool) (S : AS) : CallW C0 20 [.bool b] S fun v T => v = .agg [.int .i64 3, .int .i64 0, .str [], .bool b] ∧ Sub S T := by
  refine enterW pr20 fn20 rfl ok20 (by simp) fun F hn hs => ?_
  have s0 := hs 0
  clear hs
  simp only [List.getElem?_cons_zero, Option.getD_some] at s0
  simp [s0, zero23, build3, sz23, agg23, sub1s]

/-! ### 'has', 'rank' -/
theorem fn21 : C0.fns.get 21 = some Tryd.f21 := by kernel_rfl
theorem pr21 : C0.prims.get 21 = none := by kernel_rfl
theorem ok21 : codeOk C0 Tryd.f21.ntmps (Tryd.f21.body.getD .skip) = true := by kernel_rfl
def hasV (k n : Int) (s : List Nat) (b : Bool) : AV := if k = 1 then .iface 2 (.int .i64 n) else if k = 2 then .iface 9 (.str s) else if k = 3 then .iface 4 (.bool b) else .niface
theorem has (k n : Int) (s : List Nat) (b : Bool) (S : AS) : CallW C0 21 [.agg [.int .i64 k, .int .i64 n, .str s, .bool b]] S fun v T => v = hasV k n s b ∧ Sub S T := by
  refine enterW pr21 fn21 rfl ok21 (by simp) fun F hn hs => ?_
  have s0 := hs 0
  clear hs
  simp only [List.getElem?_cons_zero, Option.getD_some] at s0
  unfold hasV
  by_cases h1 : k = 1
  · simp [s0, h1, f0, f1, f2, f3, agg2, agg3, agg4, agg9, conc2, conc4, conc9, sub1]
  by_cases h2 : k = 2
  · simp [s0, h2, f0, f1, f2, f3, agg2, agg3, agg4, agg9, conc2, conc4, conc9, sub1]
  by_cases h3 : k = 3
  · simp [s0, h3, f0, f1, f2, f3, agg2, agg3, agg4, agg9, conc2, conc4, conc9, sub1]
  simp [s0, h1, h2, h3, f0, f1, f2, f3, agg2, agg3, agg4, agg9, conc2, conc4, conc9, sub1]
theorem fn25 : C0.fns.get 25 = some Tryd.f25 := by kernel_rfl
theorem pr25 : C0.prims.get 25 = none := by kernel_rfl
theorem ok25 : codeOk C0 Tryd.f25.ntmps (Tryd.f25.body.getD .skip) = true := by kernel_rfl
def rankI (b : Bool) : Int := cond b 1 0
theorem rank (b : Bool) (S : AS) : CallW C0 25 [.bool b] S fun v T => v = .int .i64 (rankI b) ∧ Sub S T := by
  refine enterW pr25 fn25 rfl ok25 (by simp) fun F hn hs => ?_
  have s0 := hs 0
  clear hs
  simp only [List.getElem?_cons_zero, Option.getD_some] at s0
  cases b <;> simp [s0, rankI, Sub.refl]

/-! ### Comparisons of plain values -/
def cmpI (a b : Int) : Int := if a < b then -1 else if b < a then 1 else 0
noncomputable def cmpS (a b : List Nat) : Int := cond (ltS a b) (-1) (cond (eqS a b) 0 1)
theorem fn34 : C0.fns.get 34 = some Tryd.f34 := by kernel_rfl
theorem pr34 : C0.prims.get 34 = none := by kernel_rfl
theorem ok34 : codeOk C0 Tryd.f34.ntmps (Tryd.f34.body.getD .skip) = true := by kernel_rfl
theorem nan34 (a : Int) (S : AS) {Q : AV → AS → Prop} (hQ : Q (.bool false) S) : CallW C0 34 [.int .i64 a] S Q := by
  refine enterW pr34 fn34 rfl ok34 (by simp) fun F hn hs => ?_
  have s0 := hs 0
  clear hs
  simp only [List.getElem?_cons_zero, Option.getD_some] at s0
  simp [s0, hQ]
theorem fn35 : C0.fns.get 35 = some Tryd.f35 := by kernel_rfl
theorem pr35 : C0.prims.get 35 = none := by kernel_rfl
theorem ok35 : codeOk C0 Tryd.f35.ntmps (Tryd.f35.body.getD .skip) = true := by kernel_rfl
theorem nan35 (a : Int) (S : AS) {Q : AV → AS → Prop} (hQ : Q (.bool false) S) : CallW C0 35 [.int .i64 a] S Q := by
  refine enterW pr35 fn35 rfl ok35 (by simp) fun F hn hs => ?_
  have s0 := hs 0
  clear hs
  simp only [List.getElem?_cons_zero, Option.getD_some] at s0
  simp [s0, hQ]
theorem fn22 : C0.fns.get 22 = some Tryd.f22 := by kernel_rfl
theorem pr22 : C0.prims.get 22 = none := by kernel_rfl
theorem ok22 : codeOk C0 Tryd.f22.ntmps (Tryd.f22.body.getD .skip) = true := by kernel_rfl
theorem cmp22 (a b : Int) (S : AS) : CallW C0 22 [.int .i64 a, .int .i64 b] S fun v T => v = .int .i64 (cmpI a b) ∧ Sub S T := by
  refine enterW pr22 fn22 rfl ok22 (by simp) fun F hn hs => ?_
  have s0 := hs 0
  have s1 := hs 1
  clear hs
  simp only [List.getElem?_cons_zero, List.getElem?_cons_succ, Option.getD_some] at s0 s1
  unfold cmpI
  simp [s0, s1, ex0]
  refine nan34 _ _ ?_
  simp [s0, s1, ex0]
  refine nan34 _ _ ?_
  by_cases h1 : a < b
  · simp [s0, s1, h1, Sub.refl]
  by_cases h2 : b < a
  · simp [s0, s1, h1, h2, Sub.refl]
  simp [s0, s1, h1, h2, Sub.refl]
theorem fn23 : C0.fns.get 23 = some Tryd.f23 := by kernel_rfl
theorem pr23 : C0.prims.get 23 = none := by kernel_rfl
theorem ok23 : codeOk C0 Tryd.f23.ntmps (Tryd.f23.body.getD .skip) = true := by kernel_rfl
theorem cmp23 (a b : Int) (S : AS) : CallW C0 23 [.int .i64 a, .int .i64 b] S fun v T => v = .int .i64 (cmpI a b) ∧ Sub S T := by
  refine enterW pr23 fn23 rfl ok23 (by simp) fun F hn hs => ?_
  have s0 := hs 0
  have s1 := hs 1
  clear hs
  simp only [List.getElem?_cons_zero, List.getElem?_cons_succ, Option.getD_some] at s0 s1
  unfold cmpI
  simp [s0, s1, ex0]
  refine nan35 _ _ ?_
  simp [s0, s1, ex0]
  refine nan35 _ _ ?_
  by_cases h1 : a < b
  · simp [s0, s1, h1, Sub.refl]
  by_cases h2 : b < a
  · simp [s0, s1, h1, h2, Sub.refl]
  simp [s0, s1, h1, h2, Sub.refl]
theorem ex47 : C0.exts.get 47 = some .cmpstr := by kernel_rfl
theorem fn36 : C0.fns.get 36 = some Tryd.f36 := by kernel_rfl
theorem pr36 : C0.prims.get 36 = none := by kernel_rfl
theorem ok36 : codeOk C0 Tryd.f36.ntmps (Tryd.f36.body.getD .skip) = true := by kernel_rfl
theorem cmp36 (a b : List Nat) (S : AS) {Q : AV → AS → Prop} (hQ : Q (.int .i64 (cmpS a b)) S) : CallW C0 36 [.str a, .str b] S Q := by
  refine enterW pr36 fn36 rfl ok36 (by simp) fun F hn hs => ?_
  have s0 := hs 0
  have s1 := hs 1
  clear hs
  simp only [List.getElem?_cons_zero, List.getElem?_cons_succ, Option.getD_some] at s0 s1
  unfold cmpS at hQ
  cases h1 : ltS a b <;> cases h2 : eqS a b <;> simp [h1, h2] at hQ <;> simp [s0, s1, ex47, h1, h2, hQ]
theorem fn24 : C0.fns.get 24 = some Tryd.f24 := by kernel_rfl
theorem pr24 : C0.prims.get 24 = none := by kernel_rfl
theorem ok24 : codeOk C0 Tryd.f24.ntmps (Tryd.f24.body.getD .skip) = true := by kernel_rfl
theorem cmp24 (a b : List Nat) (S : AS) : CallW C0 24 [.str a, .str b] S fun v T => v = .int .i64 (cmpS a b) ∧ Sub S T := by
  refine enterW pr24 fn24 rfl ok24 (by simp) fun F hn hs => ?_
  have s0 := hs 0
  have s1 := hs 1
  clear hs
  simp only [List.getElem?_cons_zero, List.getElem?_cons_succ, Option.getD_some] at s0 s1
  simp [s0, s1, ex0]
  refine cmp36 _ _ _ ?_
  simp [Sub.refl]

/-! ### Texts in order -/
theorem lt_tri : ∀ a b : List Nat, (ltS a b = true ∧ eqS a b = false ∧ ltS b a = false) ∨ (ltS a b = false ∧ eqS a b = true ∧ ltS b a = false) ∨ (ltS a b = false ∧ eqS a b = false ∧ ltS b a = true)
  | [], [] => .inr (.inl ⟨rfl, rfl, rfl⟩)
  | [], _ :: _ => .inl ⟨rfl, rfl, rfl⟩
  | _ :: _, [] => .inr (.inr ⟨rfl, rfl, rfl⟩)
  | x :: a, y :: b => by
    have e1 : ltS (x :: a) (y :: b) = cond (Nat.blt x y) true (cond (Nat.beq x y) (ltS a b) false) := rfl
    have e2 : eqS (x :: a) (y :: b) = cond (Nat.beq x y) (eqS a b) false := rfl
    have e3 : ltS (y :: b) (x :: a) = cond (Nat.blt y x) true (cond (Nat.beq y x) (ltS b a) false) := rfl
    rw [e1, e2, e3]
    simp only [nblt, nbeq]
    rcases Nat.lt_trichotomy x y with h | h | h
    · have h1 : ¬ y < x := by omega
      have h2 : ¬ x = y := by omega
      have h3 : ¬ y = x := by omega
      simp [h, h1, h2, h3]
    · subst h
      have := lt_tri a b
      simpa using this
    · have h1 : ¬ x < y := by omega
      have h2 : ¬ x = y := by omega
      have h3 : ¬ y = x := by omega
      simp [h, h1, h2, h3]

/-! ### The reference -/
noncomputable def mayB (k n : Int) (s : List Nat) (b : Bool) : Bool :=
  if k = 1 then eqS s [] && !b else if k = 2 then decide (s.length ≤ 32) && (decide (n = 0) && !b) else if k = 3 then decide (n = 0) && eqS s [] else false
theorem fn11 : C0.fns.get 11 = some Tryd.f11 := by kernel_rfl
theorem pr11 : C0.prims.get 11 = none := by kernel_rfl
theorem ok11 : codeOk C0 Tryd.f11.ntmps (Tryd.f11.body.getD .skip) = true := by kernel_rfl
set_option maxHeartbeats 4000000 in
theorem refMay (k n : Int) (s : List Nat) (b : Bool) (S : AS) : CallW C0 11 [.agg [.int .i64 k, .int .i64 n, .str s, .bool b]] S fun v T => v = .bool (mayB k n s b) ∧ Sub S T := by
  refine enterW pr11 fn11 rfl ok11 (by simp) fun F hn hs => ?_
  have s0 := hs 0
  clear hs
  simp only [List.getElem?_cons_zero, Option.getD_some] at s0
  unfold mayB
  have c1 : ((s.length : Nat) : Int) ≤ 32 ↔ s.length ≤ 32 := by omega
  by_cases h1 : k = 1
  · cases hs : eqS s [] <;> simp [s0, h1, hs, f0, f1, f2, f3, agg2, agg3, agg4, agg9, sub1]
  by_cases h2 : k = 2
  · by_cases h4 : s.length ≤ 32
    · have h4' := c1.2 h4
      by_cases h5 : n = 0
      · simp [s0, h2, h4, h4', h5, f0, f1, f2, f3, agg2, agg3, agg4, agg9, len_str (und9 _), sub1]
      · simp [s0, h2, h4, h4', h5, f0, f1, f2, f3, agg2, agg3, agg4, agg9, len_str (und9 _), sub1]
    · have h4' : ¬ ((s.length : Nat) : Int) ≤ 32 := fun e => h4 (c1.1 e)
      simp [s0, h2, h4, h4', f0, f1, f2, f3, agg2, agg3, agg4, agg9, len_str (und9 _), sub1]
  by_cases h3 : k = 3
  · by_cases h5 : n = 0
    · simp [s0, h3, h5, f0, f1, f2, f3, agg2, agg3, agg4, agg9, sub1]
    · simp [s0, h3, h5, f0, f1, f2, f3, agg2, agg3, agg4, agg9, sub1]
  simp [s0, h1, h2, h3, f0, f1, f2, f3, agg2, agg3, agg4, agg9, sub1]

noncomputable def cmpV (k n : Int) (s : List Nat) (b : Bool) (k' n' : Int) (s' : List Nat) (b' : Bool) : Int :=
  if k = k' then (if k = 1 then cmpI n n' else if k = 2 then cmpS s s' else if k = 3 then cmpI (rankI b) (rankI b') else 0) else cmpI k k'
theorem fn13 : C0.fns.get 13 = some Tryd.f13 := by kernel_rfl
theorem pr13 : C0.prims.get 13 = none := by kernel_rfl
theorem ok13 : codeOk C0 Tryd.f13.ntmps (Tryd.f13.body.getD .skip) = true := by kernel_rfl
set_option maxHeartbeats 4000000 in
theorem refCompare (k n : Int) (s : List Nat) (b : Bool) (k' n' : Int) (s' : List Nat) (b' : Bool) (S : AS) :
    CallW C0 13 [.agg [.int .i64 k, .int .i64 n, .str s, .bool b], .agg [.int .i64 k', .int .i64 n', .str s', .bool b']] S fun v T => v = .int .i64 (cmpV k n s b k' n' s' b') ∧ Sub S T := by
  refine enterW pr13 fn13 rfl ok13 (by simp) fun F hn hs => ?_
  have s0 := hs 0
  have s1 := hs 1
  clear hs
  simp only [List.getElem?_cons_zero, List.getElem?_cons_succ, Option.getD_some] at s0 s1
  unfold cmpV
  by_cases hk : k = k'
  · subst hk
    by_cases h1 : k = 1
    · unfold cmpI
      by_cases h5 : n < n'
      · simp [s0, s1, h1, h5, f0, f1, f2, f3, agg2, agg3, agg4, agg9, sub2]
      by_cases h6 : n' < n
      · simp [s0, s1, h1, h5, h6, f0, f1, f2, f3, agg2, agg3, agg4, agg9, sub2]
      simp [s0, s1, h1, h5, h6, f0, f1, f2, f3, agg2, agg3, agg4, agg9, sub2]
    by_cases h2 : k = 2
    · unfold cmpS
      rcases lt_tri s s' with ⟨x1, x2, x3⟩ | ⟨x1, x2, x3⟩ | ⟨x1, x2, x3⟩
      · simp [s0, s1, h2, x1, x2, x3, f0, f1, f2, f3, agg2, agg3, agg4, agg9, sub2]
      · simp [s0, s1, h2, x1, x2, x3, f0, f1, f2, f3, agg2, agg3, agg4, agg9, sub2]
      · simp [s0, s1, h2, x1, x2, x3, f0, f1, f2, f3, agg2, agg3, agg4, agg9, sub2]
    by_cases h3 : k = 3
    · cases b <;> cases b' <;> simp [s0, s1, h3, f0, f1, f2, f3, agg2, agg3, agg4, agg9, sub2, rankI, cmpI]
    simp [s0, s1, h1, h2, h3, f0, f1, f2, f3, agg2, agg3, agg4, agg9, sub2]
  · unfold cmpI
    by_cases h5 : k < k'
    · simp [s0, s1, hk, h5, f0, f1, f2, f3, agg2, agg3, agg4, agg9, sub2]
    have h6 : k' < k := by omega
    simp [s0, s1, hk, h5, h6, f0, f1, f2, f3, agg2, agg3, agg4, agg9, sub2]
end Go.Proofs.YtpejppacnecbfaaDoor.fns
