/-
  The first place of a byte in a text: the library's word for it and the abstract machine's.
-/
import Derived.Test.YtpglcebeldgeeaaDoorAmRun
import Derived.Laws.Externs
namespace Go.Am
open Go
/-- The first place of a byte, counted along the row. -/
theorem find_range {α : Type} (p : α → Bool) (d : α) : ∀ (l : List α) (k : Nat) (g : Nat → α), (∀ i, i < l.length → g (i + k) = l.getD i d) →
    (List.range' k l.length).find? (fun i => p (g i)) = (l.findIdx? p).map (· + k)
  | [], k, g, _ => rfl
  | x :: l, k, g, h => by
    have h0 : g k = x := by simpa using h 0 (by simp)
    rw [List.length_cons, List.range'_succ, List.find?_cons, h0, List.findIdx?_cons]
    cases p x with
    | true => simp
    | false =>
      have ih := find_range p d l (k + 1) g (fun i hi => by
        have := h (i + 1) (by simpa using hi)
        rw [show i + (k + 1) = i + 1 + k by omega, this]; simp)
      simp only [ih, Bool.false_eq_true, if_false, Option.map_map]
      congr 1; funext j; simp; omega
theorem idxB_find (c : Nat) : ∀ (l : List UInt8) (i : Nat), idxB c (l.map UInt8.toNat) i = (l.findIdx? fun x => Nat.beq x.toNat c).map (· + i)
  | [], i => rfl
  | x :: l, i => by
    show cond (Nat.beq x.toNat c) (some i) (idxB c (l.map UInt8.toNat) (i + 1)) = _
    rw [idxB_find c l (i + 1), List.findIdx?_cons]
    cases Nat.beq x.toNat c with
    | true => simp
    | false =>
      simp only [cond_false, Bool.false_eq_true, if_false, Option.map_map]
      congr 1; funext j; simp; omega
theorem firstIdx_idxB (s : ByteArray) (c : Nat) (hc : c < 256) : Value.int .i64 (firstIdx s (c : Int).toNat.toUInt8) = (match idxB c (s.data.toList.map UInt8.toNat) 0 with | some n => .int .i64 n | none => .int .i64 (-1)) := by
  have hp : ∀ x : UInt8, (x == (c : Int).toNat.toUInt8) = Nat.beq x.toNat c := by
    intro x
    rw [Int.toNat_natCast]
    have : (c.toUInt8).toNat = c := by simp [Nat.mod_eq_of_lt hc]
    rw [Bool.eq_iff_iff, beq_iff_eq, Nat.beq_eq, ← UInt8.toNat_inj, this]
  have e : (List.range s.size).find? (fun i => s[i]! == (c : Int).toNat.toUInt8) = idxB c (s.data.toList.map UInt8.toNat) 0 := by
    rw [idxB_find, ← find_range (fun x : UInt8 => Nat.beq x.toNat c) 0 s.data.toList 0 (fun i => s[i]!) (fun i hi => by
      have hi' : i < s.size := by simpa using hi
      simp only [Nat.add_zero]
      rw [getElem!_pos s i hi', ByteArray.getElem_eq_getElem_data]
      simp [show s.data[i]? = some s.data[i] from Array.getElem?_eq_getElem hi']), List.range_eq_range']
    simp only [hp]
    congr 1
  unfold firstIdx
  rw [e]
  cases idxB c (s.data.toList.map UInt8.toNat) 0 <;> rfl
end Go.Am
