/-
  The order of values: the plain facts.
-/
import Derived.Test.YtpejppacnecbfaaDoorMay
namespace Go.Proofs.YtpejppacnecbfaaDoor.fns
open Go Go.Am

theorem eqS_iff : ∀ a b : List Nat, eqS a b = true ↔ a = b
  | [], [] => by simp [show eqS [] [] = true from rfl]
  | [], _ :: _ => by simp [show ∀ x l, eqS [] (x :: l) = false from fun _ _ => rfl]
  | _ :: _, [] => by simp [show ∀ x l, eqS (x :: l) [] = false from fun _ _ => rfl]
  | x :: a, y :: b => by
    have e : eqS (x :: a) (y :: b) = cond (Nat.beq x y) (eqS a b) false := rfl
    rw [e, nbeq]
    have ih := eqS_iff a b
    by_cases h : x = y <;> simp [h, ih]
theorem ltS_trans : ∀ a b c : List Nat, ltS a b = true → ltS b c = true → ltS a c = true
  | [], [], _, h, _ => by cases h
  | [], _ :: _, [], _, h => by cases h
  | [], _ :: _, _ :: _, _, _ => rfl
  | _ :: _, [], _, h, _ => by cases h
  | _ :: _, _ :: _, [], _, h => by cases h
  | x :: a, y :: b, z :: c, h1, h2 => by
    have e : ∀ (x y : Nat) (a b : List Nat), ltS (x :: a) (y :: b) = cond (Nat.blt x y) true (cond (Nat.beq x y) (ltS a b) false) := fun _ _ _ _ => rfl
    rw [e, nblt, nbeq] at h1 h2 ⊢
    have ih := ltS_trans a b c
    by_cases h3 : x < y
    · by_cases h4 : y < z
      · have : x < z := by omega
        simp [this]
      · by_cases h5 : y = z
        · subst h5; simp [h3]
        · simp [h4, h5] at h2
    · by_cases h6 : x = y
      · subst h6
        simp [h3] at h1
        by_cases h4 : x < z
        · simp [h4]
        · by_cases h5 : x = z
          · subst h5
            simp [h4] at h2
            simp [ih h1 h2]
          · simp [h4, h5] at h2
      · simp [h3, h6] at h1
theorem ltS_irr (a : List Nat) : ltS a a = false := by
  rcases lt_tri a a with ⟨h1, _, h3⟩ | ⟨h1, _, _⟩ | ⟨h1, _, _⟩
  · rw [h1] at h3; cases h3
  · exact h1
  · exact h1

theorem cmpI_range (a b : Int) : cmpI a b = -1 ∨ cmpI a b = 0 ∨ cmpI a b = 1 := by unfold cmpI; split <;> (try split) <;> simp
theorem cmpI_anti (a b : Int) : cmpI a b = - cmpI b a := by
  unfold cmpI
  by_cases h1 : a < b
  · have : ¬ b < a := by omega
    simp [h1, this]
  · by_cases h2 : b < a <;> simp [h1, h2]
theorem cmpI_zero (a b : Int) : cmpI a b = 0 ↔ a = b := by
  unfold cmpI
  by_cases h1 : a < b
  · have : a ≠ b := by omega
    simp [h1, this]
  · by_cases h2 : b < a
    · have : a ≠ b := by omega
      simp [h1, h2, this]
    · have : a = b := by omega
      simp [this]
theorem cmpI_trans (a b c : Int) (h1 : cmpI a b ≤ 0) (h2 : cmpI b c ≤ 0) : cmpI a c = if cmpI b c < cmpI a b then cmpI b c else cmpI a b := by
  unfold cmpI at *
  repeat' split at h1
  all_goals repeat' split at h2
  all_goals repeat' split
  all_goals omega
theorem cmpS_range (a b : List Nat) : cmpS a b = -1 ∨ cmpS a b = 0 ∨ cmpS a b = 1 := by
  unfold cmpS; cases ltS a b <;> cases eqS a b <;> simp
theorem cmpS_anti (a b : List Nat) : cmpS a b = - cmpS b a := by
  unfold cmpS
  rcases lt_tri a b with ⟨h1, h2, h3⟩ | ⟨h1, h2, h3⟩ | ⟨h1, h2, h3⟩
  · have : eqS b a = false := by
      cases h : eqS b a
      · rfl
      · rw [(eqS_iff b a).1 h, ltS_irr] at h1; cases h1
    simp [h1, h3, this]
  · have : eqS b a = true := (eqS_iff b a).2 ((eqS_iff a b).1 h2).symm
    simp [h1, h2, h3, this]
  · have : eqS b a = false := by
      cases h : eqS b a
      · rfl
      · rw [(eqS_iff b a).1 h, ltS_irr] at h3; cases h3
    simp [h1, h2, h3]
theorem cmpS_zero (a b : List Nat) : cmpS a b = 0 ↔ a = b := by
  unfold cmpS
  rcases lt_tri a b with ⟨h1, h2, h3⟩ | ⟨h1, h2, h3⟩ | ⟨h1, h2, h3⟩
  · have : a ≠ b := by rintro rfl; rw [ltS_irr] at h1; cases h1
    simp [h1, this]
  · have e := (eqS_iff a b).1 h2
    subst e
    simp [h1, h2]
  · have : a ≠ b := by rintro rfl; rw [ltS_irr] at h3; cases h3
    simp [h1, h2, this]
theorem cmpS_neg (a b : List Nat) : cmpS a b = -1 ↔ ltS a b = true := by
  unfold cmpS
  cases ltS a b <;> cases eqS a b <;> simp
theorem cmpS_trans (a b c : List Nat) (h1 : cmpS a b ≤ 0) (h2 : cmpS b c ≤ 0) : cmpS a c = if cmpS b c < cmpS a b then cmpS b c else cmpS a b := by
  rcases cmpS_range a b with e1 | e1 | e1
  · rcases cmpS_range b c with e2 | e2 | e2
    · rw [e1, e2, (cmpS_neg a c).2 (ltS_trans a b c ((cmpS_neg a b).1 e1) ((cmpS_neg b c).1 e2))]; rfl
    · rw [← (cmpS_zero b c).1 e2, e1, (cmpS_zero b b).2 rfl]; rfl
    · omega
  · have := (cmpS_zero a b).1 e1
    subst this
    rw [e1]
    rcases cmpS_range a c with e2 | e2 | e2 <;> rw [e2] at h2 ⊢ <;> first | rfl | omega
  · omega

section
variable (k n : Int) (s : List Nat) (b : Bool) (k' n' : Int) (s' : List Nat) (b' : Bool) (k'' n'' : Int) (s'' : List Nat) (b'' : Bool)
theorem cmpV_range : cmpV k n s b k' n' s' b' = -1 ∨ cmpV k n s b k' n' s' b' = 0 ∨ cmpV k n s b k' n' s' b' = 1 := by
  unfold cmpV
  split
  · split
    · exact cmpI_range _ _
    · split
      · exact cmpS_range _ _
      · split
        · exact cmpI_range _ _
        · simp
  · exact cmpI_range _ _
theorem cmpV_anti : cmpV k n s b k' n' s' b' = - cmpV k' n' s' b' k n s b := by
  unfold cmpV
  by_cases h : k = k'
  · subst h
    simp only [if_true]
    split
    · exact cmpI_anti _ _
    · split
      · exact cmpS_anti _ _
      · split
        · exact cmpI_anti _ _
        · rfl
  · rw [if_neg h, if_neg (fun e => h e.symm)]
    exact cmpI_anti _ _
theorem cmpV_self : cmpV k n s b k n s b = 0 := by
  unfold cmpV
  simp only [if_true]
  split
  · exact (cmpI_zero _ _).2 rfl
  · split
    · exact (cmpS_zero _ _).2 rfl
    · split
      · exact (cmpI_zero _ _).2 rfl
      · rfl
theorem cmpV_trans (h1 : cmpV k n s b k' n' s' b' ≤ 0) (h2 : cmpV k' n' s' b' k'' n'' s'' b'' ≤ 0) :
    cmpV k n s b k'' n'' s'' b'' = if cmpV k' n' s' b' k'' n'' s'' b'' < cmpV k n s b k' n' s' b' then cmpV k' n' s' b' k'' n'' s'' b'' else cmpV k n s b k' n' s' b' := by
  by_cases e1 : k = k'
  · subst e1
    by_cases e2 : k = k''
    · subst e2
      unfold cmpV at *
      simp only [if_true] at *
      split
      · rename_i h; simp only [h, if_true] at h1 h2 ⊢; exact cmpI_trans _ _ _ h1 h2
      · rename_i h
        simp only [h, if_false] at h1 h2 ⊢
        split
        · rename_i h; simp only [h, if_true] at h1 h2 ⊢; exact cmpS_trans _ _ _ h1 h2
        · rename_i h
          simp only [h, if_false] at h1 h2 ⊢
          split
          · rename_i h; simp only [h, if_true] at h1 h2 ⊢; exact cmpI_trans _ _ _ h1 h2
          · simp
    · have r1 : cmpV k n' s' b' k'' n'' s'' b'' = cmpI k k'' := by simp [cmpV, e2]
      have r2 : cmpV k n s b k'' n'' s'' b'' = cmpI k k'' := by simp [cmpV, e2]
      rw [r1] at h2 ⊢
      rw [r2]
      have z : cmpI k k'' ≠ 0 := fun e => e2 ((cmpI_zero _ _).1 e)
      have m : cmpI k k'' = -1 := by rcases cmpI_range k k'' with e | e | e <;> omega
      rw [m]
      rcases cmpV_range k n s b k n' s' b' with e | e | e <;> rw [e] at h1 ⊢ <;> first | rfl | omega
  · have r1 : cmpV k n s b k' n' s' b' = cmpI k k' := by simp [cmpV, e1]
    rw [r1] at h1 ⊢
    have z : cmpI k k' ≠ 0 := fun e => e1 ((cmpI_zero _ _).1 e)
    have m : cmpI k k' = -1 := by rcases cmpI_range k k' with e | e | e <;> omega
    have lt1 : k < k' := by
      unfold cmpI at m
      split at m
      · assumption
      · split at m <;> omega
    by_cases e2 : k' = k''
    · subst e2
      have r2 : cmpV k n s b k' n'' s'' b'' = cmpI k k' := by simp [cmpV, e1]
      rw [r2, m]
      rcases cmpV_range k' n' s' b' k' n'' s'' b'' with e | e | e <;> rw [e] at h2 ⊢ <;> first | rfl | omega
    · have r3 : cmpV k' n' s' b' k'' n'' s'' b'' = cmpI k' k'' := by simp [cmpV, e2]
      rw [r3] at h2 ⊢
      have z2 : cmpI k' k'' ≠ 0 := fun e => e2 ((cmpI_zero _ _).1 e)
      have m2 : cmpI k' k'' = -1 := by rcases cmpI_range k' k'' with e | e | e <;> omega
      have lt2 : k' < k'' := by
        unfold cmpI at m2
        split at m2
        · assumption
        · split at m2 <;> omega
      have e3 : ¬ k = k'' := by omega
      have r2 : cmpV k n s b k'' n'' s'' b'' = cmpI k k'' := by simp [cmpV, e3]
      rw [r2, m, m2]
      have : k < k'' := by omega
      simp [cmpI, this]
theorem cmpV_zero (h1 : mayB k n s b = true) (h2 : mayB k' n' s' b' = true) : (decide (cmpV k n s b k' n' s' b' = 0) == sameB k n s b k' n' s' b') = true := by
  have hrank : rankI b = rankI b' ↔ b = b' := by cases b <;> cases b' <;> simp [rankI]
  unfold cmpV sameB
  by_cases hk : k = k'
  · subst hk
    unfold mayB at h1 h2
    by_cases k1 : k = 1
    · simp [k1] at h1 h2
      have a1 := (eqS_iff _ _).1 h1.1
      have a2 := (eqS_iff _ _).1 h2.1
      simp [k1, h1, h2, a1, a2, cmpI_zero, eqS_self]
    · by_cases k2 : k = 2
      · simp [k2] at h1 h2
        by_cases hs : s = s'
        · subst hs; simp [k2, h1, h2, (cmpS_zero s s).2 rfl, eqS_self]
        · have c1 : cmpS s s' ≠ 0 := fun e => hs ((cmpS_zero _ _).1 e)
          have c2 : eqS s s' = false := by
            cases h : eqS s s'
            · rfl
            · exact (hs ((eqS_iff _ _).1 h)).elim
          simp [k2, c1, c2]
      · by_cases k3 : k = 3
        · simp [k3] at h1 h2
          have a1 := (eqS_iff _ _).1 h1.2
          have a2 := (eqS_iff _ _).1 h2.2
          simp [k3, h1, h2, a1, a2, cmpI_zero, eqS_self, hrank]
          cases b <;> cases b' <;> rfl
        · simp [k1, k2, k3] at h1
  · have : cmpI k k' ≠ 0 := fun e => hk ((cmpI_zero _ _).1 e)
    simp [hk, this]
end
end Go.Proofs.YtpejppacnecbfaaDoor.fns
