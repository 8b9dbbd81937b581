/-
  'ModelOwn' answers true for every input: what one subscription is told is what it would be told alone.
-/
import Derived.Test.YtedonhemfhfbaaaGreatPartF
import Derived.Test.YtedonhemfhfbaaaGreatPartG
namespace Go.Proofs.YtedonhemfhfbaaaGreat.modelOwn
open Go Go.Am Go.ChangeShapes Go.WideShapes Go.ChangeAt Go.RowKit Go.Proofs.YtedonhemfhfbaaaGreat.mod Go.Proofs.YtedonhemfhfbaaaGreat.ready
set_option linter.unusedVariables false
set_option linter.unusedSimpArgs false

theorem law (S : AS) (vals : List AV) (h : typedArgs C0 S 9 [55] vals) : CallW C0 4 vals S fun v _ => v = .bool true := by
  obtain ⟨u, l, rfl, hx, hl⟩ := args55 (m := 0) facts0 h
  exact law4 hx (Nat.le_trans hl (by decide))

set_option maxRecDepth 20000 in
theorem lifted (os : Os) (started : os.Started) (H : Type) (enc : TypeId × Value → H) :
    ReturnsInHanded {} Tryz.checked os 4 .any (Rows.modelOwnSpec.pre6 enc Tryz.prog Tryz.f4 Rows.modelOwnRow.domain false) (Rows.modelOwnSpec.post enc Tryz.prog Tryz.f4 false true false false) := by
  refine handed_of_law (C := Tryz.checked) own started (by kernel_rfl) Tryz.func4
    (ChangeSpec.witness6 (enc := enc) (C := Tryz.checked) false ⟨#[], #[.slice none 0 0], []⟩ 8 (by kernel_rfl) (by kernel_rfl) (by kernel_rfl) (by kernel_rfl))
    (by kernel_rfl) (by kernel_rfl) (tb := 4) rfl Tryz.underlying4 rfl (fun ds hl => ?_) (fun W base args ds p hv hA => ?_)
  · rw [Tryz.params4] at hl
    match ds, hl with
    | [_], _ => rfl
  · have hts : Tryz.f4.params.toList = [55] := by rw [Tryz.params4]
    rw [hts] at hv hA
    exact law_args (P := Tryz.prog) (A := A0) (f := 4) (ts := [55]) (B := fun _ => False) (fun b hb => hb.elim) (ready A0 rfl rfl) (prims _) (fun x hx => by cases hx) 9 (by kernel_rfl) hv hA (fun S vals _ ht => law S vals ht)

theorem over : Rows.modelOwnRow.holds Tryz.pinned (OpenSpec.ofChange Rows.modelOwnSpec) :=
  OpenClaim.holds_of_wide 4 Tryz.f4 rfl rfl rfl rfl rfl rfl rfl ⟨rfl, rfl, rfl, rfl, rfl⟩ rfl rfl rfl rfl rfl (by kernel_rfl) Tryz.func4 (by kernel_rfl)
    (of_decide_eq_true (by kernel_rfl)) (by unfold Func.isWrapper; first | (rw [if_pos (by decide +kernel)]; kernel_rfl) | (rw [if_neg (by decide +kernel)]; exact ⟨rfl, rfl⟩))
    (fun os started H enc _ => lifted os started H enc)

theorem proved : Rows.ModelOwnSaid :=
  over
end Go.Proofs.YtedonhemfhfbaaaGreat.modelOwn
