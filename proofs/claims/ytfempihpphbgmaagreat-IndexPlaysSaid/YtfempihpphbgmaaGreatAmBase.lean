/-
  The abstract machine: plain facts on its tries, lists and numbers.
-/
import Derived.Test.YtfempihpphbgmaaGreatAmExec
namespace Go.Am
open Go
section
variable {α : Type}
theorem wH (m : Nat) : Nat.beq (Nat.mod m 2) 0 = decide (m % 2 = 0) := by
 show Nat.beq (m % 2) 0 = _
 by_cases h : m % 2 = 0
 ·rw [h]; rfl
 ·have h1 : m % 2 = 1 := by omega
  rw [h1]; rfl
theorem da (n : Nat) : (T.leaf : T α).get n = none := rfl
theorem kF (l r : T α) (v : Option α) : (T.node l v r).get 0 = v := rfl
theorem cW (m : Nat) (l r : T α) (v : Option α) : (T.node l v r).get (m + 1) = if m % 2 = 0 then l.get (m / 2) else r.get (m / 2) := by
 show @Bool.rec (fun _ => Option α) (r.get (m / 2)) (l.get (m / 2)) (Nat.beq (Nat.mod m 2) 0) = _
 rw [wH]
 by_cases h : m % 2 = 0
 ·rw [if_pos h, decide_eq_true h]
 ·rw [if_neg h, decide_eq_false h]
theorem mkF_zero (f : Nat) (x : Option α) : T.mkF (f + 1) 0 x = .node .leaf x .leaf := rfl
theorem mkF_succ (f m : Nat) (x : Option α) : T.mkF (f + 1) (m + 1) x = if m % 2 = 0 then .node (T.mkF f (m / 2) x) none .leaf else .node .leaf none (T.mkF f (m / 2) x) := by
 show @Bool.rec (fun _ => T α) (.node .leaf none (T.mkF f (m / 2) x)) (.node (T.mkF f (m / 2) x) none .leaf) (Nat.beq (Nat.mod m 2) 0) = _
 rw [wH]
 by_cases h : m % 2 = 0
 ·rw [if_pos h, decide_eq_true h]
 ·rw [if_neg h, decide_eq_false h]
theorem get_mkF : ∀ (f n m : Nat) (x : Option α), n < f → (T.mkF f n x).get m = if m = n then x else none := by
 intro f
 induction f with
 | zero => intro n m x h; omega
 | succ f ih =>
  intro n m x hn
  cases n with
  | zero =>
   rw [mkF_zero]
   cases m with
   | zero => rfl
   | succ m => rw [cW, da, ite_self, if_neg (by omega)]
  | succ n =>
   rw [mkF_succ]
   cases m with
   | zero => split <;> rw [kF, if_neg (by omega)]
   | succ m =>
    by_cases h : n % 2 = 0
    ·rw [if_pos h, cW]
     by_cases h' : m % 2 = 0
     ·rw [if_pos h', ih (n / 2) (m / 2) x (by omega)]
      by_cases e : m = n
      ·subst e; simp
      ·rw [if_neg (by omega), if_neg (by omega)]
     ·rw [if_neg h', da, if_neg (by omega)]
    ·rw [if_neg h, cW]
     by_cases h' : m % 2 = 0
     ·rw [if_pos h', da, if_neg (by omega)]
     ·rw [if_neg h', ih (n / 2) (m / 2) x (by omega)]
      by_cases e : m = n
      ·subst e; simp
      ·rw [if_neg (by omega), if_neg (by omega)]
theorem put_leaf (n : Nat) (x : Option α) : (T.leaf : T α).put n x = T.mkF (n + 1) n x := rfl
theorem xg (l r : T α) (v x : Option α) : (T.node l v r).put 0 x = .node l x r := rfl
theorem xh (m : Nat) (l r : T α) (v x : Option α) : (T.node l v r).put (m + 1) x = if m % 2 = 0 then .node (l.put (m / 2) x) v r else .node l v (r.put (m / 2) x) := by
 show @Bool.rec (fun _ => T α) (.node l v (r.put (m / 2) x)) (.node (l.put (m / 2) x) v r) (Nat.beq (Nat.mod m 2) 0) = _
 rw [wH]
 by_cases h : m % 2 = 0
 ·rw [if_pos h, decide_eq_true h]
 ·rw [if_neg h, decide_eq_false h]
theorem get_put (t : T α) (n m : Nat) (x : Option α) : (t.put n x).get m = if m = n then x else t.get m := by
 induction t generalizing n m with
 | leaf => rw [put_leaf, get_mkF _ _ _ _ (by omega)]; rfl
 | node l v r ub ihr =>
  cases n with
  | zero =>
   rw [xg]
   cases m with
   | zero => rfl
   | succ m => rw [cW, cW, if_neg (by omega : ¬ m + 1 = 0)]
  | succ n =>
   rw [xh]
   cases m with
   | zero => split <;> rw [kF, kF, if_neg (by omega)]
   | succ m =>
    by_cases h : n % 2 = 0
    ·rw [if_pos h, cW, cW]
     by_cases h' : m % 2 = 0
     ·rw [if_pos h', if_pos h', ub (n / 2) (m / 2)]
      by_cases e : m = n
      ·subst e; simp
      ·rw [if_neg (by omega), if_neg (by omega)]
     ·rw [if_neg h', if_neg h', if_neg (by omega)]
    ·rw [if_neg h, cW, cW]
     by_cases h' : m % 2 = 0
     ·rw [if_pos h', if_pos h', if_neg (by omega)]
     ·rw [if_neg h', if_neg h', ihr (n / 2) (m / 2)]
      by_cases e : m = n
      ·subst e; simp
      ·rw [if_neg (by omega), if_neg (by omega)]
theorem uG (t : T α) (n m : Nat) (x : α) : (t.set n x).get m = if m = n then some x else t.get m := get_put t n m _
theorem aa (t : T α) (n : Nat) (x : α) : (t.set n x).get n = some x := by rw [uG, if_pos rfl]
theorem ae (t : T α) {n m : Nat} (x : α) (h : m ≠ n) : (t.set n x).get m = t.get m := by rw [uG, if_neg h]
theorem uH : ∀ (l : List α) (i : Nat) (t : T α) (m : Nat),
  (T.ofL l i t).get m = if i ≤ m ∧ m < i + l.length then l[m - i]? else t.get m := by
 intro l
 induction l with
 | nil => intro i t m; simp [T.ofL]; omega
 | cons x l ih =>
  intro i t m;show (T.ofL l (i + 1) (T.set t i x)).get m = _;rw [ih, uG]
  by_cases h : i + 1 ≤ m ∧ m < i + 1 + l.length
  ·rw [if_pos h, if_pos (by simp; omega)]
   obtain ⟨k, rfl⟩ : ∃ k, m = i + 1 + k := ⟨m - (i + 1), by omega⟩
   have e1 : i + 1 + k - (i + 1) = k := by omega
   have e2 : i + 1 + k - i = k + 1 := by omega
   rw [e1, e2]; simp
  ·rw [if_neg h]
   by_cases e : m = i
   ·subst e; simp
   ·rw [if_neg e, if_neg (by simp; omega)]
theorem fP (n : Nat) : ∀ (l : List α), nth n l = l[n]? := by
 induction n with
 | zero => intro l; cases l <;> rfl
 | succ n ih => intro l; cases l with
  | nil => rfl
  | cons x t => exact (ih t).trans (by simp)
theorem bX (n : Nat) : ∀ (l : List α), takeN n l = l.take n := by
 induction n with
 | zero => intro l; cases l <;> rfl
 | succ n ih => intro l; cases l with
  | nil => rfl
  | cons x t => simpa [takeN] using ih t
theorem ck (n : Nat) : ∀ (l : List α), kc n l = l.drop n := by
 induction n with
 | zero => intro l; rfl
 | succ n ih => intro l; cases l with
  | nil => rfl
  | cons x t => simpa [kc] using ih t
theorem aU : ∀ (l : List α), cZ l = l.length := by
 intro l; induction l with
 | nil => rfl
 | cons x t ih => simpa [cZ] using ih
theorem bd : ∀ (l m : List α), dB l m = l ++ m := by
 intro l m; induction l with
 | nil => rfl
 | cons x t ih => simpa [dB] using ih
theorem fe {β : Type} (f : α → β) : ∀ (l : List α), j4 f l = l.map f := by
 intro l; induction l with
 | nil => rfl
 | cons x t ih => simpa [j4] using ih
theorem rM (n : Nat) : ∀ (l : List α) (x : α), l5 n l x = l.set n x := by
 induction n with
 | zero => intro l x; cases l <;> rfl
 | succ n ih => intro l x; cases l with
  | nil => rfl
  | cons y t => simpa [l5] using ih t x
theorem fE (off : Nat) : ∀ (l new : List α), off ≤ l.length → dg off l new = l.take off ++ new ++ l.drop (off + new.length) := by
 induction off with
 | zero => intro l new h; show List.append new (kc new.length l) = _; rw [ck]; simp
 | succ n ih => intro l new h; cases l with
  | nil => simp at h
  | cons y t =>
   have := ih t new (by simpa using h)
   show y :: dg n t new = _;rw [this];have e : n + 1 + new.length = (n + new.length) + 1 := by omega
   simp [e]
theorem pA (off : Nat) (l new : List α) (h : off + new.length ≤ l.length) : (dg off l new).length = l.length := by
 rw [fE off l new (by omega)]; simp; omega
theorem mS (off : Nat) (l new : List α) (h : off + new.length ≤ l.length) (i : Nat) :
  (dg off l new)[i]? = if off ≤ i ∧ i < off + new.length then new[i - off]? else l[i]? := by
 rw [fE off l new (by omega)]
 by_cases h1 : i < off
 ·rw [if_neg (by omega), List.append_assoc, List.getElem?_append_left (by simp; omega), List.getElem?_take]
  simp [h1]
 ·by_cases h2 : i < off + new.length
  ·rw [if_pos (by omega), List.append_assoc, List.getElem?_append_right (by simp; omega), List.getElem?_append_left (by simp; omega)]
   congr 1; simp; omega
  ·rw [if_neg (by omega), List.getElem?_append_right (by simp; omega), List.getElem?_drop]
   congr 1; simp; omega
theorem jI (p : α → Bool) : ∀ (l : List α), fZ p l = l.all p := by
 intro l; induction l with
 | nil => rfl
 | cons x t ih => show cond (p x) (fZ p t) false = _; rw [ih]; cases h : p x <;> simp [h]
theorem oO (p : α → Bool) : ∀ (l : List α), gv p l = l.filter p := by
 intro l; induction l with
 | nil => rfl
 | cons x t ih => show cond (p x) (x :: gv p t) (gv p t) = _; rw [ih]; cases h : p x <;> simp [h]
end
theorem uz (n : Nat) : ∀ (l : List Nat), mr n l = l.contains n := by
 intro l; induction l with
 | nil => rfl
 | cons m t ih =>
  simp only [mr] at *;simp only [ih, List.contains_cons]
  by_cases h : n = m
  ·subst h; simp
  ·have : Nat.beq n m = false := by
    cases hb : Nat.beq n m with
    | false => rfl
    | true => exact absurd (Nat.eq_of_beq_eq_true hb) h
   simp [this, h]
theorem aK {a b : Nat} : Nat.beq a b = decide (a = b) := by
 by_cases h : a = b
 ·subst h; simp
 ·have : Nat.beq a b = false := by
   cases hb : Nat.beq a b with
   | false => rfl
   | true => exact absurd (Nat.eq_of_beq_eq_true hb) h
  simp [this, h]
theorem cg {a b : Nat} : Nat.ble a b = decide (a ≤ b) := by
 by_cases h : a ≤ b
 ·simp [h, Nat.ble_eq]
 ·have : Nat.ble a b = false := by
   cases hb : Nat.ble a b with
   | false => rfl
   | true => exact absurd (Nat.le_of_ble_eq_true hb) h
  simp [this, h]
theorem fI {a b : Nat} : Nat.blt a b = decide (a < b) := by
 show Nat.ble (a + 1) b = _; rw [cg]
 rfl
theorem aC {α : Type} (n : Nat) (k : Nat → α) : e7 n k = k n := by cases n <;> rfl
theorem eX {α : Type} (n : Int) (k : Int → α) : j9 n k = k n := by
 cases n <;> simp only [j9, aC]
theorem gC (a b : Int) : C2 a b = decide (a = b) := by
 cases a <;> cases b <;> simp [C2, aK, Int.ofNat_inj]
theorem j5 (a b : Int) : ltI a b = decide (a < b) := by
 cases a <;> cases b <;> simp [ltI, fI] <;> omega
theorem cC (j k : IntKind) : iO j k = decide (j = k) := by cases j <;> cases k <;> rfl
theorem fy : ∀ (a b : List Nat), fX a b = decide (a = b) := by
 intro a; induction a with
 | nil => intro b; cases b <;> simp [fX]
 | cons x t ih => intro b; cases b with
  | nil => simp [fX]
  | cons y u =>
   show cond (Nat.beq x y) (fX t u) false = _;rw [aK, ih u]
   by_cases h : x = y <;> simp [h]
end Go.Am
