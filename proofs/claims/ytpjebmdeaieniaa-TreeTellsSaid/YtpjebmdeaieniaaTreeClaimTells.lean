/-
  'TreeTells' answers true for all slices of integers and all two integers: the tree tells what the document's tree tells.
-/
import Derived.Test.YtpjebmdeaieniaaTreeTells
import Derived.Test.YtpjebmdeaieniaaTreeBase
namespace Go.Proofs.Ytpjebmdeaieniaa.treeTells
open Go Go.Am Go.ChangeShapes Go.WideShapes Go.ChangeAt Go.RowKit Go.Proofs.Ytpjebmdeaieniaa.tree Go.Proofs.Ytpjebmdeaieniaa.treeBase
set_option linter.unusedVariables false
set_option linter.unusedSimpArgs false

theorem un3 : und C0 3 = some (.int .i64) := by kernel_rfl
theorem sz3 : szOf C0 3 = some 1 := by kernel_rfl
theorem ag22' : aggOf C0 22 = some false := ag22
theorem int_of {S : AS} {avs : List AV} (h : typedA C0 S 3 3 avs) : ∃ n : Int, avs = [.int .i64 n] := by
  unfold typedA at h
  simp only [un3] at h
  obtain ⟨n, e, _, _⟩ := h
  exact ⟨n, e⟩
/-- A slice of integers from outside. -/
theorem ints_of {S : AS} {avs : List AV} (h : typedA C0 S 3 22 avs) : ∃ (u : AV) (l : List Int), avs = [u] ∧ Sl S u 1 (intZ l) := by
  unfold typedA at h
  simp only [un22] at h
  rcases h with rfl | ⟨id, len, cap, sz, rfl, h1, _, h3, h4, h5, h6⟩
  · exact ⟨_, [], rfl, Sl.nil⟩
  · rw [sz3] at h1
    cases h1
    rcases h6 with rfl | ⟨cells, ty, g1, g2, g3⟩
    · obtain rfl : len = 0 := by omega
      exact ⟨_, [], rfl, ⟨by simp [isSl, capB], rfl, by simp [sLen, intZ], h5⟩⟩
    · have each : ∀ i, i < cap → ∃ n : Int, cells[i]? = some (.int .i64 n) := by
        intro i hi
        have := g3 i hi
        unfold typedA at this
        simp only [un3] at this
        obtain ⟨n, e, _, _⟩ := this
        have h2 : cells[i]? = ((cells.drop (i * 1)).take 1)[0]? := by rw [List.getElem?_take, if_pos (by omega), List.getElem?_drop, Nat.mul_one]; rfl
        exact ⟨n, by rw [h2, e]; rfl⟩
      have gen : ∀ (cells : List AV), (∀ i, i < cells.length → ∃ n : Int, cells[i]? = some (.int .i64 n)) → ∃ l : List Int, cells = intZ l := by
        intro cells
        induction cells with
        | nil => intro _; exact ⟨[], rfl⟩
        | cons c cs ih =>
          intro hc
          obtain ⟨n, e1⟩ := hc 0 (by simp)
          obtain ⟨l, e3⟩ := ih fun i hi => by
            obtain ⟨m, f1⟩ := hc (i + 1) (by simpa using hi)
            exact ⟨m, by simpa using f1⟩
          simp at e1
          exact ⟨n :: l, by rw [e1, e3]; rfl⟩
      obtain ⟨l, rfl⟩ := gen cells fun i hi => each i (by omega)
      have hll : l.length = cap := by have := g2; rw [intZ_len] at this; omega
      refine ⟨_, l.take len, rfl, ⟨by simp [isSl, capB, h3], ?_, by simp [sLen, intZ_len]; omega, h5⟩⟩
      cases len with
      | zero => simp [rdS, intZ]
      | succ len =>
        simp only [rdS, rd_at, g1, rdO_row]
        rw [if_pos ⟨Nat.le_refl _, Nat.le_refl _, by omega⟩]
        simp [intZ]

theorem law (S : AS) (vals : List AV) (h : typedArgs C0 S 3 [22, 3, 3] vals) : CallW C0 3 vals S fun v _ => v = .bool true := by
  obtain ⟨a1, r1, rfl, h1, a2, r2, rfl, h2, a3, r3, rfl, h3, rfl⟩ := h
  obtain ⟨u, l, rfl, g1⟩ := ints_of h1
  obtain ⟨a, rfl⟩ := int_of h2
  obtain ⟨b, rfl⟩ := int_of h3
  simp only [argA, ag22, ag3, soleA]
  exact tree.tells g1 a b

theorem lifted (os : Os) (started : os.Started) (H : Type) (enc : TypeId × Value → H) :
    ReturnsInHanded {} Try.checked os 3 .any (Rows.treeTellsSpec.pre6 enc Try.prog Try.f3 Rows.treeTellsRow.domain false) (Rows.treeTellsSpec.post enc Try.prog Try.f3 false true false false) := by
  refine handed_of_law (C := Try.checked) own started (by kernel_rfl) Try.func3
    (ChangeSpec.witness6 (enc := enc) (C := Try.checked) false ⟨#[], #[.slice none 0 0, .int .i64 0, .int .i64 0], []⟩ 8 (by kernel_rfl) (by kernel_rfl) (by kernel_rfl) (by kernel_rfl))
    (by kernel_rfl) (by kernel_rfl) (tb := 4) rfl Try.underlying4 rfl (fun ds hl => ?_) (fun W base args ds p hv hA => ?_)
  · rw [Try.params3] at hl
    match ds, hl with
    | [_, _, _], _ => rfl
  · have hts : Try.f3.params.toList = [22, 3, 3] := by rw [Try.params3]
    rw [hts] at hv hA
    exact law_args (B := fun _ => False) (fun b hb => hb.elim) (readyOf A0 rfl rfl) prims (fun x hx => by cases hx) 3 (by kernel_rfl) hv hA fun S vals _ ht => law S vals ht

theorem over : Rows.treeTellsRow.holds Try.pinned (OpenSpec.ofChange Rows.treeTellsSpec) :=
  OpenClaim.holds_of_wide 3 Try.f3 rfl rfl rfl rfl rfl rfl rfl ⟨rfl, rfl, rfl, rfl, rfl⟩ rfl rfl rfl rfl rfl (by kernel_rfl) Try.func3 (by kernel_rfl)
    (of_decide_eq_true (by kernel_rfl)) (by unfold Func.isWrapper; first | (rw [if_pos (by decide +kernel)]; kernel_rfl) | (rw [if_neg (by decide +kernel)]; exact ⟨rfl, rfl⟩))
    (fun os started H enc _ => lifted os started H enc)

theorem proved : Rows.TreeTellsSaid :=
  over
end Go.Proofs.Ytpjebmdeaieniaa.treeTells
