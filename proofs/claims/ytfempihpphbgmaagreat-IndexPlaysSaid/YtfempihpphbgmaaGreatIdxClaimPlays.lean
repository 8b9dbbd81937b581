/-
  'IndexPlays' answers true for every input: an index under any calls tells what the document's tells.
-/
import Derived.Test.YtfempihpphbgmaaGreatPartG
import Derived.Test.YtfempihpphbgmaaGreatPartE
namespace Go.Proofs.YtfempihpphbgmaaGreat.indexPlays
open Go Go.Am Go.ChangeShapes Go.WideShapes Go.ChangeAt Go.RowKit Go.Proofs.YtfempihpphbgmaaGreat.mod Go.Proofs.YtfempihpphbgmaaGreat.idx Go.Proofs.YtfempihpphbgmaaGreat.ready
set_option linter.unusedVariables false
set_option linter.unusedSimpArgs false
theorem law (S : AS) (bK : List AV) (h : kU C1 S 9 [57] bK) : cQ C1 6 bK S fun v _ => v = .bool true := by
 obtain ⟨u, l, rfl, g1, g2, g3⟩ := args6 (m := 0) facts1 (by kernel_rfl) (by kernel_rfl) (by kernel_rfl) (by kernel_rfl) h
 exact law6 g1 g2 g3
set_option maxRecDepth 20000 in
theorem lifted (os : Os) (started : os.Started) (H : Type) (enc : TypeId × Value → H) :
  ReturnsInHanded {} Tryz.checked os 6 .any (Rows.indexPlaysSpec.pre6 enc Tryz.prog Tryz.f6 Rows.indexPlaysRow.domain false) (Rows.indexPlaysSpec.post enc Tryz.prog Tryz.f6 false true false false) := by
 refine xE (C := Tryz.checked) own started (by kernel_rfl) Tryz.func6
  (ChangeSpec.witness6 (enc := enc) (C := Tryz.checked) false ⟨#[], #[.slice none 0 0], []⟩ 8 (by kernel_rfl) (by kernel_rfl) (by kernel_rfl) (by kernel_rfl))
  (by kernel_rfl) (by kernel_rfl) (tb := 4) rfl Tryz.underlying4 rfl (fun ds hl => ?_) (fun W base args ds p hv hA hW => ?_)
 ·rw [Tryz.params6] at hl
  match ds, hl with
  | [_], _ => rfl
 ·have DO : Tryz.f6.params.toList = [57] := by rw [Tryz.params6]
  rw [DO] at hv hA hW;exact law_argsE (P := Tryz.prog) (A := A1) (f := 6) (ts := [57]) (B := fun _ => False) (fun b hb => hb.elim) readyA1 (primsA1 _) (fun x hx => by cases hx) 9 (by kernel_rfl) hv hA hW (fun S bK _ ht => law S bK ht)
theorem over : Rows.indexPlaysRow.holds Tryz.pinned (OpenSpec.ofChange Rows.indexPlaysSpec) :=
 OpenClaim.holds_of_wide 6 Tryz.f6 rfl rfl rfl rfl rfl rfl rfl ⟨rfl, rfl, rfl, rfl, rfl⟩ rfl rfl rfl rfl rfl (by kernel_rfl) Tryz.func6 (by kernel_rfl)
  (of_decide_eq_true (by kernel_rfl)) (by unfold Func.isWrapper; first | (rw [if_pos (by decide +kernel)]; kernel_rfl) | (rw [if_neg (by decide +kernel)]; exact ⟨rfl, rfl⟩))
  (fun os started H enc _ => lifted os started H enc)
theorem proved : Rows.IndexPlaysSaid :=
 over
end Go.Proofs.YtfempihpphbgmaaGreat.indexPlays
