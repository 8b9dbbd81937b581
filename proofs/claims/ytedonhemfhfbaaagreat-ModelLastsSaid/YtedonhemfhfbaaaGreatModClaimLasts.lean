/-
  'ModelLasts' answers true for every input: what was durable stays, what is gone stays gone.
-/
import Derived.Test.YtedonhemfhfbaaaGreatPartM
import Derived.Test.YtedonhemfhfbaaaGreatPartG
namespace Go.Proofs.YtedonhemfhfbaaaGreat.modelLasts
open Go Go.Am Go.ChangeShapes Go.WideShapes Go.ChangeAt Go.RowKit Go.Proofs.YtedonhemfhfbaaaGreat.mod Go.Proofs.YtedonhemfhfbaaaGreat.ready
set_option linter.unusedVariables false
set_option linter.unusedSimpArgs false

theorem law (S : AS) (vals : List AV) (h : typedArgs C0 S 9 [55] vals) : CallW C0 6 vals S fun v _ => v = .bool true := by
  obtain ⟨u, l, rfl, hx, he, hl⟩ := args55E (m := 0) facts0 h
  exact law6 hx he (Nat.le_trans hl (by decide))

set_option maxRecDepth 20000 in
theorem lifted (os : Os) (started : os.Started) (H : Type) (enc : TypeId × Value → H) :
    ReturnsInHanded {} Tryz.checked os 6 .any (Rows.modelLastsSpec.pre6 enc Tryz.prog Tryz.f6 Rows.modelLastsRow.domain false) (Rows.modelLastsSpec.post enc Tryz.prog Tryz.f6 false true false false) := by
  refine handed_of_law (C := Tryz.checked) own started (by kernel_rfl) Tryz.func6
    (ChangeSpec.witness6 (enc := enc) (C := Tryz.checked) false ⟨#[], #[.slice none 0 0], []⟩ 8 (by kernel_rfl) (by kernel_rfl) (by kernel_rfl) (by kernel_rfl))
    (by kernel_rfl) (by kernel_rfl) (tb := 4) rfl Tryz.underlying4 rfl (fun ds hl => ?_) (fun W base args ds p hv hA hW => ?_)
  · rw [Tryz.params6] at hl
    match ds, hl with
    | [_], _ => rfl
  · have hts : Tryz.f6.params.toList = [55] := by rw [Tryz.params6]
    rw [hts] at hv hA hW
    exact law_args (P := Tryz.prog) (A := A0) (f := 6) (ts := [55]) (B := fun _ => False) (fun b hb => hb.elim) (ready A0 rfl rfl) (prims _) (fun x hx => by cases hx) 9 (by kernel_rfl) hv hA hW (fun S vals _ ht => law S vals ht)

theorem over : Rows.modelLastsRow.holds Tryz.pinned (OpenSpec.ofChange Rows.modelLastsSpec) :=
  OpenClaim.holds_of_wide 6 Tryz.f6 rfl rfl rfl rfl rfl rfl rfl ⟨rfl, rfl, rfl, rfl, rfl⟩ rfl rfl rfl rfl rfl (by kernel_rfl) Tryz.func6 (by kernel_rfl)
    (of_decide_eq_true (by kernel_rfl)) (by unfold Func.isWrapper; first | (rw [if_pos (by decide +kernel)]; kernel_rfl) | (rw [if_neg (by decide +kernel)]; exact ⟨rfl, rfl⟩))
    (fun os started H enc _ => lifted os started H enc)

theorem proved : Rows.ModelLastsSaid :=
  over
end Go.Proofs.YtedonhemfhfbaaaGreat.modelLasts
