/-
  The abstract machine: a call that answers.
-/
import Derived.Test.YtpjebmdeaieniaaAmDraws
namespace Go.Am
open Go Go.RowKit

/-- The checks of the tables, said as the kernel may look at them. -/
structure Ready (P : Program) (eqs : List Nat) : Prop where
  mixed : P.follows .mixedOrders = true
  stood : ∀ t, t ∈ eqs → P.stoodInHeld t = false ∧ P.eqGuardType P.depth t = false ∧ ∀ f, f ∈ (P.fieldsOf t).toList → f.name ≠ "_"
  enters : ∀ f fn, P.funcs[f]? = some fn → fn.body.isSome = true → ∀ args w, (callFunc f args).run P w = .ok (.enter f args) w

theorem enters_ok {P : Program} (h : P.funcs.toList.all (fun fn => !(fn.name == "runtime.NumGoroutine")) = true) : ∀ f fn, P.funcs[f]? = some fn → fn.body.isSome = true → ∀ args w, (callFunc f args).run P w = .ok (.enter f args) w := by
  intro f fn hf hb args w
  have hn := List.all_eq_true.1 h fn (List.mem_of_getElem? (by rw [Array.getElem?_toList]; exact hf))
  have h1 : fn.name ≠ "runtime.NumGoroutine" := by simpa using hn
  have h2 : fn.body ≠ none := by intro e; rw [e] at hb; cases hb
  simp [callFunc, hf, h1, h2]

theorem foldl_get (l : List Nat) : ∀ (t : T Unit) (i : Nat), (l.foldl (fun t n => t.set n ()) t).get i ≠ none → t.get i ≠ none ∨ i ∈ l := by
  induction l with
  | nil => intro t i h; exact .inl h
  | cons n l ih =>
    intro t i h
    rcases ih _ i h with h1 | h1
    · by_cases hi : i = n
      · exact .inr (by simp [hi])
      · rw [get_set_ne _ _ hi] at h1; exact .inl h1
    · exact .inr (by simp [h1])

theorem cx_ok {P : Program} {eqs : List Nat} (h : Ready P eqs) : CxOk P (mkCx P eqs) := by
  refine ⟨fun t i ht => ?_, fun f fn hf => ?_, fun t ht => ?_, h.enters⟩
  · have ht' : (T.ofL P.types.toList 0 .leaf).get t = some i := ht
    rw [get_ofL] at ht'
    split at ht'
    · rename_i hb
      have h1 : P.types[t]? = some i := by rw [← Array.getElem?_toList]; simpa using ht'
      unfold Tables.info?
      rw [if_pos (Array.getElem?_eq_some_iff.1 h1).1]; exact h1
    · cases ht'
  · have ht' : (T.ofL P.funcs.toList 0 .leaf).get f = some fn := hf
    rw [get_ofL] at ht'
    split at ht'
    · rename_i hb
      rw [← Array.getElem?_toList]; simpa using ht'
    · cases ht'
  · have ht' : (eqs.foldl (fun t n => t.set n ()) .leaf : T Unit).get t ≠ none := ht
    rcases foldl_get eqs _ t ht' with h1 | h1
    · exact absurd rfl h1
    · exact h.stood t h1

theorem empty_R (w : World) : R (fun _ _ => none) ⟨.leaf, 0⟩ w :=
  have none : ∀ (i : Nat) (o : AObj), ¬ (T.leaf : T AObj).get i = some o := fun i o h => by cases h
  ⟨fun i o h => (none i o h).elim, fun i o h => (none i o h).elim, fun _ _ _ => rfl, fun i c l t f h => (none i _ h).elim, fun i o _ _ h => (none i o h).elim, fun i _ o _ _ _ _ _ _ h => (none i o h).elim⟩

/-- Is the answer of a closed call this one bool? -/
noncomputable def isB (b : Bool) (r : Res (AV × AS)) : Bool :=
  match r with
  | .ok (.bool c, _) [] => cond b c (!c)
  | _ => false
noncomputable def says (P : Program) (eqs : List Nat) (n : Nat) (f : FuncId) (b : Bool) : Bool := isB b (call (mkCx P eqs) n f [] ⟨.leaf, 0⟩)

/-- A call without arguments that the machine answers by one bool. -/
theorem call_bool {P : Program} {eqs : List Nat} (h : Ready P eqs) (n : Nat) (f : FuncId) (b : Bool)
    (hs : true = says P eqs n f b) (w : World) :
    Calls P f #[] w fun e w' => e = .returned (.bool b) ∧ Below w.heap.size w w' := by
  have hc : isB b (call (mkCx P eqs) n f [] ⟨.leaf, 0⟩) = true := hs.symm
  unfold isB at hc
  have hcx := cx_ok h
  have hK := callF_ok hcx (code_ok hcx (drawn_ok hcx h.mixed) n).1
  refine (hK (fun _ _ => none) f [] ⟨.leaf, 0⟩ w #[] (fun x w' => x = .bool b ∧ Below w.heap.size w w') ?_ (empty_R w) (by simp [LRel])).2.mono ?_
  · have hcc : callF (mkCx P eqs) (exec (mkCx P eqs) n) = call (mkCx P eqs) n := rfl
    rw [hcc]
    split at hc
    · rename_i c S heq
      rw [heq]
      refine ⟨fun ρ' x w' hx hR hk => ?_, fun y hy => by cases hy⟩
      have hx' : x = .bool c := by simpa [VRel] using hx
      have hbc : c = b := by cases b <;> cases c <;> simp_all
      refine ⟨by rw [hx', hbc], hk.os, hk.tape, hk.output, hk.size, fun k hk' => hk.keep k hk' ?_⟩
      rintro ⟨i, o, g, pl, ho, _⟩
      cases ho
    · cases hc
  · rintro e w' ⟨x, rfl, hx, hb⟩
    exact ⟨by rw [hx], hb⟩

end Go.Am
