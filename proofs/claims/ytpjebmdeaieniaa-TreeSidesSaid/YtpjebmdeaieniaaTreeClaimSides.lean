/-
  'TreeSides' answers true for all slices of bytes and all bytes: the sides of a broker's neighbours, and itself, are all brokers, each once.
-/
import Derived.Test.YtpjebmdeaieniaaTreeSides
import Derived.Test.YtpjebmdeaieniaaTreeBase
namespace Go.Proofs.Ytpjebmdeaieniaa.treeSides
open Go Go.Am Go.ChangeShapes Go.WideShapes Go.ChangeAt Go.RowKit Go.Proofs.Ytpjebmdeaieniaa.tree Go.Proofs.Ytpjebmdeaieniaa.treeBase
set_option linter.unusedVariables false
set_option linter.unusedSimpArgs false

theorem law (S : AS) (vals : List AV) (h : typedArgs C0 S 3 [40, 5] vals) : CallW C0 5 vals S fun v _ => v = .bool true := by
  obtain ⟨a1, r1, rfl, h1, a2, r2, rfl, h2, rfl⟩ := h
  obtain ⟨u, l, rfl, g1, g2⟩ := bytes_of h1
  obtain ⟨a, rfl, ha⟩ := byte_of h2
  simp only [argA, ag40, ag5, soleA]
  exact tree.sides g1 g2 ha

theorem lifted (os : Os) (started : os.Started) (H : Type) (enc : TypeId × Value → H) :
    ReturnsInHanded {} Try.checked os 5 .any (Rows.treeSidesSpec.pre6 enc Try.prog Try.f5 Rows.treeSidesRow.domain false) (Rows.treeSidesSpec.post enc Try.prog Try.f5 false true false false) := by
  refine handed_of_law (C := Try.checked) own started (by kernel_rfl) Try.func5
    (ChangeSpec.witness6 (enc := enc) (C := Try.checked) false ⟨#[], #[.slice none 0 0, .int .u8 0], []⟩ 8 (by kernel_rfl) (by kernel_rfl) (by kernel_rfl) (by kernel_rfl))
    (by kernel_rfl) (by kernel_rfl) (tb := 4) rfl Try.underlying4 rfl (fun ds hl => ?_) (fun W base args ds p hv hA => ?_)
  · rw [Try.params5] at hl
    match ds, hl with
    | [_, _], _ => rfl
  · have hts : Try.f5.params.toList = [40, 5] := by rw [Try.params5]
    rw [hts] at hv hA
    exact law_args (B := fun _ => False) (fun b hb => hb.elim) (readyOf A0 rfl rfl) prims (fun x hx => by cases hx) 3 (by kernel_rfl) hv hA fun S vals _ ht => law S vals ht

theorem over : Rows.treeSidesRow.holds Try.pinned (OpenSpec.ofChange Rows.treeSidesSpec) :=
  OpenClaim.holds_of_wide 5 Try.f5 rfl rfl rfl rfl rfl rfl rfl ⟨rfl, rfl, rfl, rfl, rfl⟩ rfl rfl rfl rfl rfl (by kernel_rfl) Try.func5 (by kernel_rfl)
    (of_decide_eq_true (by kernel_rfl)) (by unfold Func.isWrapper; first | (rw [if_pos (by decide +kernel)]; kernel_rfl) | (rw [if_neg (by decide +kernel)]; exact ⟨rfl, rfl⟩))
    (fun os started H enc _ => lifted os started H enc)

theorem proved : Rows.TreeSidesSaid :=
  over
end Go.Proofs.Ytpjebmdeaieniaa.treeSides
