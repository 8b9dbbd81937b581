/-
  The tied card of 'StoreKnown'.
-/
import Derived.Test.YtgeghppdhjlbiaaGreatDoorPartD
import Derived.Test.YtgeghppdhjlbiaaGreatDoorCards
import Derived.Test.YtgeghppdhjlbiaaGreatDoorTie
import Derived.SevenTiedAt
namespace Go.Proofs.YtgeghppdhjlbiaaGreatDoor.storeKnown
open Go
set_option linter.unusedVariables false

/-- Where no function of the program starts a goroutine, no call does. -/
theorem goes_none {P : Program} {c : OpenClaim} (h : P.funcs.any Func.goes = false) (hs : c.start = .entering) : false = c.goesBy P := by
  have one : ∀ f, P.goes f = false := by
    intro f
    unfold Program.goes
    rw [h, Bool.and_false, Bool.or_false, List.any_eq_false]
    intro g _
    cases hg : P.funcs[g]? with
    | none => simp
    | some fn =>
      have hm : fn ∈ P.funcs := Array.mem_of_getElem? hg
      rw [Array.any_eq_false'] at h
      have h1 := h fn hm
      simpa using h1
  unfold OpenClaim.goesBy Program.goesAt Program.goesFrom
  rw [hs]
  cases P.funcNamed c.func with
  | none => rfl
  | some f => simp [one f]

theorem proved : Rows.StoreKnownCardSaid :=
  Claim7.holds_tied_plain_at .later [] [.data, .pinned] true _ true
    over (fun _ h => by cases h) k_wf (fun _ h => by cases h) storeKnown_row_tie rfl ⟨rfl, rfl⟩ k_mainIs rfl
    (fun f fn hf hfn => by
      obtain rfl : f = 3 := Option.some.inj (k_fn.symm.trans hf) |>.symm
      obtain rfl : fn = Tryz.f3 := (Option.some.inj (Tryz.func3.symm.trans hfn)).symm
      exact ⟨k_looks, fun j t ht => by
        rw [Tryz.params3] at ht
        simp at ht⟩)
    (goes_none k_go rfl)
end Go.Proofs.YtgeghppdhjlbiaaGreatDoor.storeKnown
