/-
  'IndexExact' answers true for every input: a query tells just those that the predicate matches.
-/
import Derived.Test.YtfempihpphbgmaaGreatPartE
namespace Go.Proofs.YtfempihpphbgmaaGreat.indexExact
open Go Go.Am Go.ChangeShapes Go.WideShapes Go.ChangeAt Go.RowKit Go.Proofs.YtfempihpphbgmaaGreat.mod Go.Proofs.YtfempihpphbgmaaGreat.idx Go.Proofs.YtfempihpphbgmaaGreat.ready
set_option linter.unusedVariables false
set_option linter.unusedSimpArgs false
theorem law (S : AS) (vals : List AV) (h : typedArgs C1 S 9 [22, 23, 25] vals) : CallW C1 3 vals S fun v _ => v = .bool true := by
 obtain ⟨u, l, g, gs, p, cs, rfl, g1, g2, g3, g4, g5, g6, g7⟩ := args3 (m := 0) facts1 h
 exact law3 g1 g2 g3 g4 g6 g5 g7
set_option maxRecDepth 20000 in
theorem lifted (os : Os) (started : os.Started) (H : Type) (enc : TypeId × Value → H) :
  ReturnsInHanded {} Tryz.checked os 3 .any (Rows.indexExactSpec.pre6 enc Tryz.prog Tryz.f3 Rows.indexExactRow.domain false) (Rows.indexExactSpec.post enc Tryz.prog Tryz.f3 false true false false) := by
 refine handed_of_law (C := Tryz.checked) own started (by kernel_rfl) Tryz.func3
  (ChangeSpec.witness6 (enc := enc) (C := Tryz.checked) false ⟨#[], #[.slice none 0 0, .slice none 0 0, .slice none 0 0], []⟩ 8 (by kernel_rfl) (by kernel_rfl) (by kernel_rfl) (by kernel_rfl))
  (by kernel_rfl) (by kernel_rfl) (tb := 4) rfl Tryz.underlying4 rfl (fun ds hl => ?_) (fun W base args ds p hv hA hW => ?_)
 ·rw [Tryz.params3] at hl
  match ds, hl with
  | [_, _, _], _ => rfl
 ·have hts : Tryz.f3.params.toList = [22, 23, 25] := by rw [Tryz.params3]
  rw [hts] at hv hA hW
  exact law_args (P := Tryz.prog) (A := A1) (f := 3) (ts := [22, 23, 25]) (B := fun _ => False) (fun b hb => hb.elim) readyA1 (primsA1 _) (fun x hx => by cases hx) 9 (by kernel_rfl) hv hA hW (fun S vals _ ht => law S vals ht)
theorem over : Rows.indexExactRow.holds Tryz.pinned (OpenSpec.ofChange Rows.indexExactSpec) :=
 OpenClaim.holds_of_wide 3 Tryz.f3 rfl rfl rfl rfl rfl rfl rfl ⟨rfl, rfl, rfl, rfl, rfl⟩ rfl rfl rfl rfl rfl (by kernel_rfl) Tryz.func3 (by kernel_rfl)
  (of_decide_eq_true (by kernel_rfl)) (by unfold Func.isWrapper; first | (rw [if_pos (by decide +kernel)]; kernel_rfl) | (rw [if_neg (by decide +kernel)]; exact ⟨rfl, rfl⟩))
  (fun os started H enc _ => lifted os started H enc)
theorem proved : Rows.IndexExactSaid :=
 over
end Go.Proofs.YtfempihpphbgmaaGreat.indexExact
