/-
  The abstract machine: a range over a map, all its orders.
-/
import Derived.Test.YtfempihpphbgmaaGreatAmKept
namespace Go.Am
open Go
set_option linter.unusedVariables false
def MapWf (es : List AEnt) (clock : Nat) : Prop := (∀ e, e ∈ es → e.born < clock) ∧ es.Pairwise fun a b => a.born ≠ b.born
theorem isNilL_eq {α : Type} (l : List α) : isNilL l = l.isEmpty := by cases l <;> rfl
variable {S : AS} {id m : Nat} {seen : List Nat} {es : List AEnt} {clock : Nat}
theorem nextM_cases (hw : MapWf es clock) :
  nextM S id m clock seen clock es clock ≠ [] ∧ ∀ y, y ∈ nextM S id m clock seen clock es clock →
   (y = (.tuple [.bool false], S) ∧ ∀ e, e ∈ es → e.born ∈ seen) ∨ ∃ e, e ∈ es ∧ e.born ∉ seen ∧ y = Am.stepE S id m clock seen clock e := by
 have h1 : (!isNilL seen && (!isNilL es && allL (fun e => Nat.ble clock e.born) es)) = false := by
  cases es with
  | nil => simp [isNilL]
  | cons e es =>
   have := hw.1 e (List.mem_cons_self ..)
   have : Nat.ble clock e.born = false := by rw [nble]; simp; omega
   rw [allL_eq]
   simp [this]
 have hnew : (es.filter fun e => !memN e.born seen).filter (fun e => !Nat.blt e.born clock) = [] := by
  rw [List.filter_eq_nil_iff]
  intro e he
  have := hw.1 e (List.mem_filter.1 he).1
  have hb : Nat.blt e.born clock = true := by
   show Nat.ble (Nat.succ e.born) clock = true
   rw [nble]; simp; omega
  simp [hb]
 have hold : (es.filter fun e => !memN e.born seen).filter (fun e => Nat.blt e.born clock) = es.filter fun e => !memN e.born seen := by
  rw [List.filter_eq_self]
  intro e he
  have := hw.1 e (List.mem_filter.1 he).1
  show Nat.ble (Nat.succ e.born) clock = true
  rw [nble]; simp; omega
 unfold nextM
 rw [h1]
 simp only [cond_false, filL_eq, hold, hnew, zaK, List.append_nil, zbY, isNilL_eq]
 cases hl : es.filter fun e => !memN e.born seen with
 | nil =>
  simp only [List.isEmpty_nil, cond_true, List.map_nil]
  refine ⟨by simp, fun y hy => .inl ⟨by simpa using hy, fun e he => ?_⟩⟩
  have := List.filter_eq_nil_iff.1 hl e he
  rw [memN_eq] at this
  simpa using this
 | cons z l =>
  simp only [List.isEmpty_cons, cond_false]
  refine ⟨by simp, fun y hy => .inr ?_⟩
  obtain ⟨e, he, rfl⟩ := List.mem_map.1 hy
  rw [← hl] at he
  obtain ⟨q1, q2⟩ := List.mem_filter.1 he
  rw [memN_eq] at q2
  exact ⟨e, q1, by simpa using q2, rfl⟩
theorem findB_of (hw : es.Pairwise fun a b => a.born ≠ b.born) {e : AEnt} (he : e ∈ es) : ∀ i, ∃ j, findB e.born es i = some (j, e) := by
 induction es with
 | nil => cases he
 | cons z es ih =>
  intro i
  obtain ⟨h1, h2⟩ := List.pairwise_cons.1 hw
  have u : findB e.born (z :: es) i = cond (Nat.beq z.born e.born) (some (i, z)) (findB e.born es (Nat.succ i)) := rfl
  rw [u, nbeq]
  rcases List.mem_cons.1 he with rfl | he
  ·simp
  ·have := h1 e he
   simp only [this, decide_false, cond_false]
   exact ih h2 he _
section
variable {cx : Cx} {F : Fr} {dst : Option Tmp} {ty : TypeId} {pos : String} {af : Array Edge} {g : Option (Nat × Bool)}
theorem callV_yld {id : Nat} {as : List AV} : callV cx S (.obj .yld id) as = .round id as S := rfl
theorem aop_range {t : TypeId} {x : Operand} : aop cx F S ⟨dst, .range t x, ty, pos, af, g⟩ = vals? (rangeV cx S t (eval F x)) 88 := rfl
theorem aop_next {x : Operand} {s : Bool} : aop cx F S ⟨dst, .next x s, ty, pos, af, g⟩ = nextV S (eval F x) s := rfl
theorem aop_entry {x : Operand} : aop cx F S ⟨dst, .entry x, ty, pos, af, g⟩ = val? (entryV S (eval F x)) S 89 := rfl
theorem rangeV_map {t a b : TypeId} {id : Nat} {es : List AEnt} {clock : Nat} (hu : und cx t = some (.map a b)) (h : S.h.get id = some (.map es clock)) :
  rangeV cx S t (.map id) = some (.ptr S.next 0 0 0, ⟨S.h.set S.next (.oth (.iter (some id) clock [] clock)), Nat.succ S.next⟩) := by
 unfold rangeV
 rw [hu]
 simp only [h]
theorem nextV_map {i m since last l : Nat} {seen : List Nat} (h1 : S.h.get i = some (.oth (.iter (some m) since seen last))) (h2 : S.h.get m = some (.map es clock)) :
  nextV S (.ptr i 0 0 l) false = .many (nextM S i m since seen last es clock) := by
 unfold nextV
 simp only [h1, h2]
 rfl
theorem entryV_map {i m since l b : Nat} {seen : List Nat} {e : AEnt} (h1 : S.h.get i = some (.oth (.iter (some m) since (b :: seen) clock))) (h2 : S.h.get m = some (.map es clock)) (hw : es.Pairwise fun a b => a.born ≠ b.born) (he : e ∈ es) (hb : e.born = b) :
  entryV S (.ptr i 0 0 l) = some (.tuple [e.key, e.val]) := by
 subst hb
 obtain ⟨j, hj⟩ := findB_of hw he 0
 unfold entryV
 simp only [h1, h2, nbeq, decide_true, cond_true, hj]
end
end Go.Am
