/-
  'ModelAll' answers true for every input: whoever tells all that matches, in order, and acknowledges it, is let through.
-/
import Derived.Test.YtedonhemfhfbaaaGreatPartJ
import Derived.Test.YtedonhemfhfbaaaGreatPartG
namespace Go.Proofs.YtedonhemfhfbaaaGreat.modelAll
open Go Go.Am Go.ChangeShapes Go.WideShapes Go.ChangeAt Go.RowKit Go.Proofs.YtedonhemfhfbaaaGreat.mod Go.Proofs.YtedonhemfhfbaaaGreat.ready
set_option linter.unusedVariables false
set_option linter.unusedSimpArgs false

theorem un22 : und C0 22 = some (.slice 40) := by kernel_rfl
theorem un5 : und C0 5 = some (.int .u8) := by kernel_rfl
section
variable {cx : Am.Cx}
theorem evs_of (K : Facts cx) (k22 : und cx 22 = some (.slice 40)) (k40 : szOf cx 40 = some 2) {S : AS} {m : Nat} {x : List AV} (h : typedA cx S (m + 6) 22 x) : ∃ (u : AV) (l : List Ev), x = [u] ∧ EvsAt S u l ∧ l.length ≤ maxLen := by
  obtain ⟨u, l, rfl, g1, g2, g3, _⟩ := sl_of (G := fun e : Ev => AttsAt S e.u e.atts) k22 k40 h encE_len (fun x hx => by
    obtain ⟨s, u, l, rfl, hu⟩ := ev_of K hx
    exact ⟨⟨s, u, l⟩, rfl, hu⟩)
  exact ⟨u, l, rfl, ⟨g1, g2⟩, g3⟩
theorem args3 (K : Facts cx) (k22 : und cx 22 = some (.slice 40)) (k40 : szOf cx 40 = some 2) (k5 : und cx 5 = some (.int .u8)) (a22 : aggOf cx 22 = some false) (a24 : aggOf cx 24 = some false) (a5 : aggOf cx 5 = some false) {S : AS} {m : Nat} {vals : List AV} (h : typedArgs cx S (m + 6) [22, 24, 5] vals) :
    ∃ (u p : AV) (l : List Ev) (ks : List Con) (k : Nat), vals = [u, p, .int .u8 k] ∧ EvsAt S u l ∧ l.length ≤ maxLen ∧ PredAt S p ks ∧ k < 256 := by
  obtain ⟨a1, r1, rfl, h1, a2, r2, rfl, h2, a3, r3, rfl, h3, rfl⟩ := h
  obtain ⟨u, l, rfl, hx, hl⟩ := evs_of K k22 k40 h1
  obtain ⟨p, ks, rfl, hp⟩ := pred_of K h2
  obtain ⟨k, rfl, hk⟩ := u8_of k5 h3
  exact ⟨u, p, l, ks, k, by simp only [argA, a22, a24, a5, soleA], hx, hl, hp, hk⟩
end
theorem law (S : AS) (vals : List AV) (h : typedArgs C0 S 9 [22, 24, 5] vals) : CallW C0 3 vals S fun v _ => v = .bool true := by
  obtain ⟨u, p, l, ks, k, rfl, hx, hl, hp, hk⟩ := args3 (m := 3) facts0 un22 sz40 un5 ag22 ag24 ag5 h
  exact law3 hx hp (Nat.le_trans hl (by decide)) hk

set_option maxRecDepth 20000 in
theorem lifted (os : Os) (started : os.Started) (H : Type) (enc : TypeId × Value → H) :
    ReturnsInHanded {} Tryz.checked os 3 .any (Rows.modelAllSpec.pre6 enc Tryz.prog Tryz.f3 Rows.modelAllRow.domain false) (Rows.modelAllSpec.post enc Tryz.prog Tryz.f3 false true false false) := by
  refine handed_of_law (C := Tryz.checked) own started (by kernel_rfl) Tryz.func3
    (ChangeSpec.witness6 (enc := enc) (C := Tryz.checked) false ⟨#[], #[.slice none 0 0, .slice none 0 0, .int .u8 0], []⟩ 8 (by kernel_rfl) (by kernel_rfl) (by kernel_rfl) (by kernel_rfl))
    (by kernel_rfl) (by kernel_rfl) (tb := 4) rfl Tryz.underlying4 rfl (fun ds hl => ?_) (fun W base args ds p hv hA hW => ?_)
  · rw [Tryz.params3] at hl
    match ds, hl with
    | [_, _, _], _ => rfl
  · have hts : Tryz.f3.params.toList = [22, 24, 5] := by rw [Tryz.params3]
    rw [hts] at hv hA hW
    exact law_args (P := Tryz.prog) (A := A0) (f := 3) (ts := [22, 24, 5]) (B := fun _ => False) (fun b hb => hb.elim) (ready A0 rfl rfl) (prims _) (fun x hx => by cases hx) 9 (by kernel_rfl) hv hA hW (fun S vals _ ht => law S vals ht)

theorem over : Rows.modelAllRow.holds Tryz.pinned (OpenSpec.ofChange Rows.modelAllSpec) :=
  OpenClaim.holds_of_wide 3 Tryz.f3 rfl rfl rfl rfl rfl rfl rfl ⟨rfl, rfl, rfl, rfl, rfl⟩ rfl rfl rfl rfl rfl (by kernel_rfl) Tryz.func3 (by kernel_rfl)
    (of_decide_eq_true (by kernel_rfl)) (by unfold Func.isWrapper; first | (rw [if_pos (by decide +kernel)]; kernel_rfl) | (rw [if_neg (by decide +kernel)]; exact ⟨rfl, rfl⟩))
    (fun os started H enc _ => lifted os started H enc)

theorem proved : Rows.ModelAllSaid :=
  over
end Go.Proofs.YtedonhemfhfbaaaGreat.modelAll
