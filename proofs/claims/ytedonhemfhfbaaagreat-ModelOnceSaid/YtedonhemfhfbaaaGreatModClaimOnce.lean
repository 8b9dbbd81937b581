/-
  'ModelOnce' answers true for every input: what is told rises, matches, leaves out nothing, is told once between crashes, and never again behind an acknowledgement.
-/
import Derived.Test.YtedonhemfhfbaaaGreatPartK
import Derived.Test.YtedonhemfhfbaaaGreatPartG
namespace Go.Proofs.YtedonhemfhfbaaaGreat.modelOnce
open Go Go.Am Go.ChangeShapes Go.WideShapes Go.ChangeAt Go.RowKit Go.Proofs.YtedonhemfhfbaaaGreat.mod Go.Proofs.YtedonhemfhfbaaaGreat.ready
set_option linter.unusedVariables false
set_option linter.unusedSimpArgs false

theorem un22 : und C0 22 = some (.slice 40) := by kernel_rfl
theorem un65 : und C0 65 = some (.slice 68) := by kernel_rfl
theorem un5 : und C0 5 = some (.int .u8) := by kernel_rfl
theorem un4 : und C0 4 = some .bool := by kernel_rfl
theorem fl68 : flT C0 68 = some [31, 31, 4] := by kernel_rfl
theorem ag65 : aggOf C0 65 = some false := by kernel_rfl
section
variable {cx : Am.Cx}
theorem evs_of (K : Facts cx) (k22 : und cx 22 = some (.slice 40)) (k40 : szOf cx 40 = some 2) {S : AS} {m : Nat} {x : List AV} (h : typedA cx S (m + 6) 22 x) : ∃ (u : AV) (l : List Ev), x = [u] ∧ EvsAt S u l ∧ l.length ≤ maxLen := by
  obtain ⟨u, l, rfl, g1, g2, g3, _⟩ := sl_of (G := fun e : Ev => AttsAt S e.u e.atts) k22 k40 h encE_len (fun x hx => by
    obtain ⟨s, u, l, rfl, hu⟩ := ev_of K hx
    exact ⟨⟨s, u, l⟩, rfl, hu⟩)
  exact ⟨u, l, rfl, ⟨g1, g2⟩, g3⟩
theorem try_of (K : Facts cx) (k68 : flT cx 68 = some [31, 31, 4]) (k4 : und cx 4 = some .bool) {S : AS} {m : Nat} {x : List AV} (h : typedA cx S (m + 2) 68 x) : ∃ t : TryG, x = encTr t ∧ True := by
  obtain ⟨x1, _, rfl, _, h1, x2, _, rfl, _, h2, x3, _, rfl, _, h3, rfl⟩ := rec_of k68 h
  obtain ⟨a, rfl, _⟩ := u64_of K.un31 h1
  obtain ⟨b, rfl, _⟩ := u64_of K.un31 h2
  obtain ⟨c, rfl⟩ := bool_of k4 h3
  exact ⟨⟨a, b, c⟩, rfl, trivial⟩
theorem args5 (K : Facts cx) (k22 : und cx 22 = some (.slice 40)) (k40 : szOf cx 40 = some 2) (k65 : und cx 65 = some (.slice 68)) (k68 : szOf cx 68 = some 3) (f68 : flT cx 68 = some [31, 31, 4]) (k5 : und cx 5 = some (.int .u8)) (k4 : und cx 4 = some .bool) (a22 : aggOf cx 22 = some false) (a24 : aggOf cx 24 = some false) (a65 : aggOf cx 65 = some false) (a5 : aggOf cx 5 = some false) (a4 : aggOf cx 4 = some false) {S : AS} {m : Nat} {vals : List AV} (h : typedArgs cx S (m + 6) [22, 24, 65, 5, 4] vals) :
    ∃ (u p x : AV) (l : List Ev) (ks : List Con) (tl : List TryG) (k : Nat) (d : Bool), vals = [u, p, x, .int .u8 k, .bool d] ∧ EvsAt S u l ∧ l.length ≤ maxLen ∧ PredAt S p ks ∧ Sl S x 3 (tl.flatMap encTr) ∧ tl.length ≤ maxLen ∧ k < 256 := by
  obtain ⟨a1, r1, rfl, h1, a2, r2, rfl, h2, a3, r3, rfl, h3, a4', r4, rfl, h4, a5', r5, rfl, h5, rfl⟩ := h
  obtain ⟨u, l, rfl, hx, hl⟩ := evs_of K k22 k40 h1
  obtain ⟨p, ks, rfl, hp⟩ := pred_of K h2
  obtain ⟨x, tl, rfl, g1, _, g3, _⟩ := sl_of k65 k68 h3 encTr_len (fun x hx => try_of K f68 k4 hx)
  obtain ⟨k, rfl, hk⟩ := u8_of k5 h4
  obtain ⟨d, rfl⟩ := bool_of k4 h5
  exact ⟨u, p, x, l, ks, tl, k, d, by simp only [argA, a22, a24, a65, a5, a4, soleA], hx, hl, hp, g1, g3, hk⟩
end
theorem law (S : AS) (vals : List AV) (h : typedArgs C0 S 9 [22, 24, 65, 5, 4] vals) : CallW C0 5 vals S fun v _ => v = .bool true := by
  obtain ⟨u, p, x, l, ks, tl, k, d, rfl, hx, hl, hp, ht, htl, hk⟩ := args5 (m := 3) facts0 un22 sz40 un65 sz68 fl68 un5 un4 ag22 ag24 ag65 ag5 ag4 h
  exact law5 hx hp ht (Nat.le_trans htl (by decide)) (Nat.le_trans hl (by decide)) hk

set_option maxRecDepth 20000 in
theorem lifted (os : Os) (started : os.Started) (H : Type) (enc : TypeId × Value → H) :
    ReturnsInHanded {} Tryz.checked os 5 .any (Rows.modelOnceSpec.pre6 enc Tryz.prog Tryz.f5 Rows.modelOnceRow.domain false) (Rows.modelOnceSpec.post enc Tryz.prog Tryz.f5 false true false false) := by
  refine handed_of_law (C := Tryz.checked) own started (by kernel_rfl) Tryz.func5
    (ChangeSpec.witness6 (enc := enc) (C := Tryz.checked) false ⟨#[], #[.slice none 0 0, .slice none 0 0, .slice none 0 0, .int .u8 0, .bool false], []⟩ 8 (by kernel_rfl) (by kernel_rfl) (by kernel_rfl) (by kernel_rfl))
    (by kernel_rfl) (by kernel_rfl) (tb := 4) rfl Tryz.underlying4 rfl (fun ds hl => ?_) (fun W base args ds p hv hA hW => ?_)
  · rw [Tryz.params5] at hl
    match ds, hl with
    | [_, _, _, _, _], _ => rfl
  · have hts : Tryz.f5.params.toList = [22, 24, 65, 5, 4] := by rw [Tryz.params5]
    rw [hts] at hv hA hW
    exact law_args (P := Tryz.prog) (A := A0) (f := 5) (ts := [22, 24, 65, 5, 4]) (B := fun _ => False) (fun b hb => hb.elim) (ready A0 rfl rfl) (prims _) (fun x hx => by cases hx) 9 (by kernel_rfl) hv hA hW (fun S vals _ ht => law S vals ht)

theorem over : Rows.modelOnceRow.holds Tryz.pinned (OpenSpec.ofChange Rows.modelOnceSpec) :=
  OpenClaim.holds_of_wide 5 Tryz.f5 rfl rfl rfl rfl rfl rfl rfl ⟨rfl, rfl, rfl, rfl, rfl⟩ rfl rfl rfl rfl rfl (by kernel_rfl) Tryz.func5 (by kernel_rfl)
    (of_decide_eq_true (by kernel_rfl)) (by unfold Func.isWrapper; first | (rw [if_pos (by decide +kernel)]; kernel_rfl) | (rw [if_neg (by decide +kernel)]; exact ⟨rfl, rfl⟩))
    (fun os started H enc _ => lifted os started H enc)

theorem proved : Rows.ModelOnceSaid :=
  over
end Go.Proofs.YtedonhemfhfbaaaGreat.modelOnce
