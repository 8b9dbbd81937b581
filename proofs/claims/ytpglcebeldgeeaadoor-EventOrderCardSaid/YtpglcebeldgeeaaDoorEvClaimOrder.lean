/-
  'EventOrder': the law as it runs, and the row's step.
-/
import Derived.Test.YtpglcebeldgeeaaDoorPartH
import Derived.Test.YtpglcebeldgeeaaDoorPartG
import Derived.Test.YtpglcebeldgeeaaDoorCards
import Derived.Test.YtpglcebeldgeeaaDoorTie
import Derived.SevenTiedAt
namespace Go.Proofs.YtpglcebeldgeeaaDoor.eventOrder
open Go Go.Am Go.ChangeShapes Go.WideShapes Go.ChangeAt Go.RowKit Go.Proofs.YtpglcebeldgeeaaDoor.val
set_option linter.unusedVariables false
set_option linter.unusedSimpArgs false

theorem law (S : AS) (vals : List AV) (h : typedArgs C0 S 5 [9, 22, 9, 5] vals) : CallW C0 4 vals S fun v _ => v = .bool true := by
  obtain ⟨key, name, u, l, n, rfl, hu, hn⟩ := argsOrder (m := 0) evFacts0 (by kernel_rfl) (by kernel_rfl) h
  exact law4 hu hn

set_option maxRecDepth 100000 in
theorem lifted (os : Os) (started : os.Started) (H : Type) (enc : TypeId × Value → H) :
    ReturnsInHanded {} Tryd.checked os 4 .any (fun w args => (Rows.eventOrderSpec.pre enc Tryd.prog Tryd.f4 [] false w args ∧ laidMetH Tryd.prog laid.L w) ∧ sizedMet enc Tryd.prog Tryd.f4 (OpenSpec.ofChange Rows.eventOrderSpec) false w args)
      (Rows.eventOrderSpec.post enc Tryd.prog Tryd.f4 false true false false) := by
  refine handed_of_law_and (C := Tryd.checked) (X := fun w _ => laidMetH Tryd.prog laid.L w) (fun _ _ _ hh h => h.of_heap hh) laid.own started (by kernel_rfl) Tryd.func4
    (ChangeSpec.witness_at (enc := enc) (C := Tryd.checked) (os := os) (X := fun w _ => laidMetH Tryd.prog laid.L w) false (laid.laidWorld os) #[.string ⟨#[]⟩, .slice none 0 0, .string ⟨#[]⟩, .int .u8 0] 8 rfl (by kernel_rfl) (by kernel_rfl) (by kernel_rfl) (by kernel_rfl) (by kernel_rfl) (laid.laidWorld_met os _))
    (by kernel_rfl) (by kernel_rfl) (tb := 4) rfl Tryd.underlying4 rfl (fun ds hl => ?_) (fun W base args ds p hv hA hW hL => ?_)
  · rw [Tryd.params4] at hl
    match ds, hl with
    | [_, _, _, _], _ => rfl
  · have hg := laid.globs_of hL
    have hts : Tryd.f4.params.toList = [9, 22, 9, 5] := by rw [Tryd.params4]
    rw [hts] at hv hA hW
    exact law_args (P := Tryd.prog) (A := A0) (f := 4) (ts := [9, 22, 9, 5]) (B := laid.B) (fun b hb => (laid.base_of hg b hb).1) (laid.ready A0 rfl rfl) (primsA (globs_lt hg)) hg 5 (by kernel_rfl) hv hA hW (fun S vals _ ht => law S vals ht)

theorem over : Rows.EventOrderSaid :=
  OpenClaim.holds_of_wide 4 Tryd.f4 rfl rfl rfl rfl rfl rfl rfl ⟨rfl, rfl, rfl, rfl, rfl⟩ rfl rfl rfl rfl rfl (by kernel_rfl) Tryd.func4 (by kernel_rfl)
    (of_decide_eq_true (by kernel_rfl)) (by unfold Func.isWrapper; first | (rw [if_pos (by decide +kernel)]; kernel_rfl) | (rw [if_neg (by decide +kernel)]; exact ⟨rfl, rfl⟩))
    (fun os started H enc _ => lifted os started H enc)

theorem proved : Rows.EventOrderCardSaid :=
  Claim7.holds_tied_plain_at .later [] [.data, .data, .data, .sentinel, .sentinel] true _ true
    over (fun _ h => by cases h) (by kernel_rfl) (fun _ h => by cases h) eventOrder_row_tie rfl ⟨rfl, rfl⟩ (by kernel_rfl) rfl
    (fun f fn hf hfn => by
      obtain rfl : f = 4 := Option.some.inj ((show Tryd.prog.funcNamed Rows.eventOrderRow.func = some 4 by kernel_rfl).symm.trans hf) |>.symm
      obtain rfl : fn = Tryd.f4 := (Option.some.inj (Tryd.func4.symm.trans hfn)).symm
      refine ⟨by kernel_rfl, fun j t ht => ?_⟩
      have hall : (Tryd.f4.params.toList.all fun t => !Tryd.prog.wantsStandIn t) = true := by kernel_rfl
      have hm : t ∈ Tryd.f4.params.toList := by
        rw [← Array.getElem?_toList] at ht
        exact List.mem_of_getElem? ht
      have hb : Tryd.prog.wantsStandIn t = false := by simpa using List.all_eq_true.1 hall t hm
      exact hb)
    (by kernel_rfl)
end Go.Proofs.YtpglcebeldgeeaaDoor.eventOrder
