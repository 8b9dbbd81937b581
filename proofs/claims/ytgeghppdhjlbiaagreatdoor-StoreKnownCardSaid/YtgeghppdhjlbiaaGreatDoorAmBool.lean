/-
  The first place of a byte in a text: the library's word for it and the abstract machine's.
  The abstract machine: what lies below stays; a closed call that answers one bool, as one that is known.
-/
import Derived.Test.YtgeghppdhjlbiaaGreatDoorAmRun
import Derived.Laws.Externs
import Derived.Test.YtgeghppdhjlbiaaGreatDoorAmFast
namespace Go.Am
open Go
/-- The first place of a byte, counted along the row. -/
theorem find_range {α : Type} (p : α → Bool) (d : α) : ∀ (l : List α) (k : Nat) (g : Nat → α), (∀ i, i < l.length → g (i + k) = l.getD i d) →
    (List.range' k l.length).find? (fun i => p (g i)) = (l.findIdx? p).map (· + k)
  | [], k, g, _ => rfl
  | x :: l, k, g, h => by
    have h0 : g k = x := by simpa using h 0 (by simp)
    rw [List.length_cons, List.range'_succ, List.find?_cons, h0, List.findIdx?_cons]
    cases p x with
    | true => simp
    | false =>
      have ih := find_range p d l (k + 1) g (fun i hi => by
        have := h (i + 1) (by simpa using hi)
        rw [show i + (k + 1) = i + 1 + k by omega, this]; simp)
      simp only [ih, Bool.false_eq_true, if_false, Option.map_map]
      congr 1; funext j; simp; omega
theorem idxB_find (c : Nat) : ∀ (l : List UInt8) (i : Nat), idxB c (l.map UInt8.toNat) i = (l.findIdx? fun x => Nat.beq x.toNat c).map (· + i)
  | [], i => rfl
  | x :: l, i => by
    show cond (Nat.beq x.toNat c) (some i) (idxB c (l.map UInt8.toNat) (i + 1)) = _
    rw [idxB_find c l (i + 1), List.findIdx?_cons]
    cases Nat.beq x.toNat c with
    | true => simp
    | false =>
      simp only [cond_false, Bool.false_eq_true, if_false, Option.map_map]
      congr 1; funext j; simp; omega
theorem firstIdx_idxB (s : ByteArray) (c : Nat) (hc : c < 256) : Value.int .i64 (firstIdx s (c : Int).toNat.toUInt8) = (match idxB c (s.data.toList.map UInt8.toNat) 0 with | some n => .int .i64 n | none => .int .i64 (-1)) := by
  have hp : ∀ x : UInt8, (x == (c : Int).toNat.toUInt8) = Nat.beq x.toNat c := by
    intro x
    rw [Int.toNat_natCast]
    have : (c.toUInt8).toNat = c := by simp [Nat.mod_eq_of_lt hc]
    rw [Bool.eq_iff_iff, beq_iff_eq, Nat.beq_eq, ← UInt8.toNat_inj, this]
  have e : (List.range s.size).find? (fun i => s[i]! == (c : Int).toNat.toUInt8) = idxB c (s.data.toList.map UInt8.toNat) 0 := by
    rw [idxB_find, ← find_range (fun x : UInt8 => Nat.beq x.toNat c) 0 s.data.toList 0 (fun i => s[i]!) (fun i hi => by
      have hi' : i < s.size := by simpa using hi
      simp only [Nat.add_zero]
      rw [getElem!_pos s i hi', ByteArray.getElem_eq_getElem_data]
      simp [show s.data[i]? = some s.data[i] from Array.getElem?_eq_getElem hi']), List.range_eq_range']
    simp only [hp]
    congr 1
  unfold firstIdx
  rw [e]
  cases idxB c (s.data.toList.map UInt8.toNat) 0 <;> rfl
end Go.Am

namespace Go.Am
open Go Go.RowKit

/-- What lies below stays: so all that is known stays known. -/
theorem R.below {Λ : LB} {ρ : Rho} {S : AS} {w w' : World} (h : R Λ ρ S w) (hb : Below w.heap.size w w') : R Λ ρ S w' ∧ Kp ρ S w ρ S w' := by
  have hs : ∀ b, b < w.heap.size → w'.heap[b]? = w.heap[b]? := fun b hb2 => hb.block b hb2
  refine ⟨⟨fun id o ho => (h.objs id o ho).keep (Ext.refl _) fun g pl hp => hs _ (h.lt id o g pl ho hp), h.dom, h.fresh, h.topg, fun id o g pl ho hp => Nat.lt_of_lt_of_le (h.lt id o g pl ho hp) hb.size, h.apart, Nat.le_trans h.start hb.size, fun b hB => ?_⟩,
    ⟨Ext.refl _, hb.os, hb.tape, hb.output, hb.size, fun b hb' _ => hs b hb', fun _ h => .inl h, fun _ h => .inl h, Nat.le_refl _, fun _ _ _ h => ⟨rfl, h⟩⟩⟩
  obtain ⟨d1, d2, d3⟩ := h.base b hB
  exact ⟨d1, (hs b (Nat.lt_of_lt_of_le d1 h.start)).trans d2, d3⟩

/-- A function without arguments that answers one bool, as one that is known. -/
noncomputable def boolQ (b : Bool) (as : List AV) (S : AS) : Option (AV × AS) := match as with | [] => some (.bool b, S) | _ => none
theorem boolQ_ok {Λ : LB} {P : Program} {f : FuncId} {fn : Func} {b : Bool} (hf : P.funcs[f]? = some fn) (hb : fn.body.isSome = true)
    (h : ∀ w, Calls P f #[] w fun e w' => e = .returned (.bool b) ∧ Below w.heap.size w w') : PrimOk Λ P f (boolQ b) := by
  intro ρ as S w args v S' hR hl hq
  cases as with
  | cons x xs => cases hq
  | nil =>
    cases hq
    simp only [LRel] at hl
    have : args = #[] := Array.ext' (by simpa using hl)
    subst this
    refine ⟨⟨fn, hf, hb⟩, (h w).mono fun e w' he => ?_⟩
    obtain ⟨h1, h2⟩ := hR.below he.2
    exact ⟨.bool b, ρ, he.1, by simp [VRel], h1, h2⟩

/-- A call without arguments that the machine answers by one bool: by the fast text. -/
theorem call_fast {Λ : LB} {P : Program} {A : Ask} (h : Ready P A) (hp : ∀ x, x ∈ A.prims → PrimOk Λ P x.1 x.2) (hg : ∀ x, x ∈ A.globs → GlobOk Λ.w Λ.B x.1 x.2) (n : Nat) (f : FuncId) (b : Bool)
    (hs : true = saysK P A n f b) (w : World) (hz : Λ.w.heap.size ≤ w.heap.size) (hb : ∀ b, Λ.B b → b < Λ.w.heap.size ∧ w.heap[b]? = Λ.w.heap[b]?) :
    Calls P f #[] w fun e w' => e = .returned (.bool b) ∧ Below w.heap.size w w' :=
  call_bool_at h hp hg n f b (hs.trans (saysK_eq P A n f b)) w hz hb
/-- .. where nothing is known of the world. -/
theorem call_fast0 {P : Program} {A : Ask} (h : Ready P A) (hp : ∀ Λ : LB, ∀ x, x ∈ A.prims → PrimOk Λ P x.1 x.2) (hg : A.globs = []) (n : Nat) (f : FuncId) (b : Bool) (hs : true = saysK P A n f b) (w : World) :
    Calls P f #[] w fun e w' => e = .returned (.bool b) ∧ Below w.heap.size w w' :=
  call_fast (Λ := ⟨w, fun _ => False⟩) h (hp _) (by rw [hg]; intro x hx; cases hx) n f b hs w (Nat.le_refl _) (fun _ hb => hb.elim)

end Go.Am
