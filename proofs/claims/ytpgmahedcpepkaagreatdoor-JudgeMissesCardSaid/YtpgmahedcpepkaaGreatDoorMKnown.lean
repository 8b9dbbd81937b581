/-
  The tied card of 'JudgeMisses'.
-/
import Derived.Test.YtpgmahedcpepkaaGreatDoorMOver
import Derived.Test.YtpgmahedcpepkaaGreatDoorCards
import Derived.Test.YtpgmahedcpepkaaGreatDoorTie
import Derived.SevenTiedAt
namespace Go.Proofs.YtpgmahedcpepkaaGreatDoor.judgeMisses
open Go
set_option linter.unusedVariables false

/-- Where no function of the program starts a goroutine, no call does. -/
theorem goes_none {P : Program} {c : OpenClaim} (h : P.funcs.any Func.goes = false) (hs : c.start = .entering) : false = c.goesBy P := by
  have one : ∀ f, P.goes f = false := by
    intro f
    unfold Program.goes
    rw [h, Bool.and_false, Bool.or_false, List.any_eq_false]
    intro g _
    cases hg : P.funcs[g]? with
    | none => simp
    | some fn =>
      have hm : fn ∈ P.funcs := Array.mem_of_getElem? hg
      rw [Array.any_eq_false'] at h
      have h1 := h fn hm
      simpa using h1
  unfold OpenClaim.goesBy Program.goesAt Program.goesFrom
  rw [hs]
  cases P.funcNamed c.func with
  | none => rfl
  | some f => simp [one f]

theorem proved : Rows.JudgeMissesCardSaid :=
  Claim7.holds_tied_plain_at .later [] [.data, .pinned] true _ true
    over (fun _ h => by cases h) k_wf (fun _ h => by cases h) judgeMisses_row_tie rfl ⟨rfl, rfl⟩ k_mainIs rfl
    (fun f fn hf hfn => by
      obtain rfl : f = 3 := Option.some.inj (k_fn.symm.trans hf) |>.symm
      obtain rfl : fn = Tryz.f3 := (Option.some.inj (Tryz.func3.symm.trans hfn)).symm
      refine ⟨k_looks, fun j t ht => ?_⟩
      have hall : (Tryz.f3.params.toList.all fun t => !Tryz.prog.wantsStandIn t) = true := by kernel_rfl
      have hm : t ∈ Tryz.f3.params.toList := by
        rw [← Array.getElem?_toList] at ht
        exact List.mem_of_getElem? ht
      have hb : Tryz.prog.wantsStandIn t = false := by simpa using List.all_eq_true.1 hall t hm
      exact hb)
    (goes_none k_go rfl)
end Go.Proofs.YtpgmahedcpepkaaGreatDoor.judgeMisses
