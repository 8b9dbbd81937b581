/-
  'IndexSets' answers true for every input: what constraints of a name find, as sets.
-/
import Derived.Test.YtfempihpphbgmaaGreatPartE
namespace Go.Proofs.YtfempihpphbgmaaGreat.indexSets
open Go Go.Am Go.ChangeShapes Go.WideShapes Go.ChangeAt Go.RowKit Go.Proofs.YtfempihpphbgmaaGreat.mod Go.Proofs.YtfempihpphbgmaaGreat.idx Go.Proofs.YtfempihpphbgmaaGreat.ready
set_option linter.unusedVariables false
set_option linter.unusedSimpArgs false
theorem law (S : AS) (vals : List AV) (h : typedArgs C1 S 9 [22, 9, 50, 50] vals) : CallW C1 5 vals S fun v _ => v = .bool true := by
 obtain ⟨u, l, s, v, w, rfl, g1, g2, g3⟩ := args5 (m := 0) facts1 h
 exact law5 g1 g2 g3
set_option maxRecDepth 20000 in
theorem lifted (os : Os) (started : os.Started) (H : Type) (enc : TypeId × Value → H) :
  ReturnsInHanded {} Tryz.checked os 5 .any (Rows.indexSetsSpec.pre6 enc Tryz.prog Tryz.f5 Rows.indexSetsRow.domain false) (Rows.indexSetsSpec.post enc Tryz.prog Tryz.f5 false true false false) := by
 refine handed_of_law (C := Tryz.checked) own started (by kernel_rfl) Tryz.func5
  (ChangeSpec.witness6 (enc := enc) (C := Tryz.checked) false ⟨#[], #[.slice none 0 0, .string ⟨#[]⟩, .agg #[.int .i64 0, .int .i64 0, .string ⟨#[]⟩, .bool false], .agg #[.int .i64 0, .int .i64 0, .string ⟨#[]⟩, .bool false]], []⟩ 8 (by kernel_rfl) (by kernel_rfl) (by kernel_rfl) (by kernel_rfl))
  (by kernel_rfl) (by kernel_rfl) (tb := 4) rfl Tryz.underlying4 rfl (fun ds hl => ?_) (fun W base args ds p hv hA hW => ?_)
 ·rw [Tryz.params5] at hl
  match ds, hl with
  | [_, _, _, _], _ => rfl
 ·have hts : Tryz.f5.params.toList = [22, 9, 50, 50] := by rw [Tryz.params5]
  rw [hts] at hv hA hW
  exact law_args (P := Tryz.prog) (A := A1) (f := 5) (ts := [22, 9, 50, 50]) (B := fun _ => False) (fun b hb => hb.elim) readyA1 (primsA1 _) (fun x hx => by cases hx) 9 (by kernel_rfl) hv hA hW (fun S vals _ ht => law S vals ht)
theorem over : Rows.indexSetsRow.holds Tryz.pinned (OpenSpec.ofChange Rows.indexSetsSpec) :=
 OpenClaim.holds_of_wide 5 Tryz.f5 rfl rfl rfl rfl rfl rfl rfl ⟨rfl, rfl, rfl, rfl, rfl⟩ rfl rfl rfl rfl rfl (by kernel_rfl) Tryz.func5 (by kernel_rfl)
  (of_decide_eq_true (by kernel_rfl)) (by unfold Func.isWrapper; first | (rw [if_pos (by decide +kernel)]; kernel_rfl) | (rw [if_neg (by decide +kernel)]; exact ⟨rfl, rfl⟩))
  (fun os started H enc _ => lifted os started H enc)
theorem proved : Rows.IndexSetsSaid :=
 over
end Go.Proofs.YtfempihpphbgmaaGreat.indexSets
