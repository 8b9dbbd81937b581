/-
  The argument of 'ValueMakes': a record of five fields, opened, and shut again.
-/
import Derived.Test.YtpejppacnecbfaaDoorArgs
import Derived.Test.YtpejppacnecbfaaDoorMakes
namespace Go.Proofs.YtpejppacnecbfaaDoor.fns
open Go Go.Am Go.RowKit Go.ChangeShapes Go.WideShapes Go.ChangeAt Go.Joins Go.Proofs.YtpejppacnecbfaaDoor.laid

theorem array5 {α : Type} {cs : Array α} (h : cs.size = 5) : ∃ c0 c1 c2 c3 c4, cs = #[c0, c1, c2, c3, c4] := by
  obtain ⟨l⟩ := cs
  match l, h with
  | [c0, c1, c2, c3, c4], _ => exact ⟨c0, c1, c2, c3, c4, rfl⟩
section
variable {H : Type} {enc : TypeId × Value → H} {P : Program} {w : World} {base : Nat} {spare : Nat → Bool} {held : Bool}
theorem trod_struct5 {t : TypeId} {f0 f1 f2 f3 f4 : Field} {fuel : Nat} {cs : List Value} {x : DataW H × List MemPlace} (ht : P.underlying t = some (.struct #[f0, f1, f2, f3, f4])) (h : DataW.trod enc P w base spare held fuel t cs = some x) :
    ∃ y0 y1 y2 y3 y4 n, x = (.agg [y0.1, y1.1, y2.1, y3.1, y4.1], y0.2 ++ (y1.2 ++ (y2.2 ++ (y3.2 ++ y4.2)))) ∧ cs.length = P.cellsOf t ∧ DataW.trod enc P w base spare held n f0.type ((cs.drop f0.offset).take (P.cellsOf f0.type)) = some y0 ∧
      DataW.trod enc P w base spare held n f1.type ((cs.drop f1.offset).take (P.cellsOf f1.type)) = some y1 ∧ DataW.trod enc P w base spare held n f2.type ((cs.drop f2.offset).take (P.cellsOf f2.type)) = some y2 ∧
      DataW.trod enc P w base spare held n f3.type ((cs.drop f3.offset).take (P.cellsOf f3.type)) = some y3 ∧ DataW.trod enc P w base spare held n f4.type ((cs.drop f4.offset).take (P.cellsOf f4.type)) = some y4 := by
  obtain ⟨xs, n, _, rfl, hl, hlen, hf⟩ := DataW.trod_struct ht h
  match xs, hlen with
  | [y0, y1, y2, y3, y4], _ => exact ⟨y0, y1, y2, y3, y4, n, by simp, hl, by simpa using hf 0 f0 rfl, by simpa using hf 1 f1 rfl, by simpa using hf 2 f2 rfl, by simpa using hf 3 f3 rfl, by simpa using hf 4 f4 rfl⟩
theorem trod_struct5_mk {t : TypeId} {f0 f1 f2 f3 f4 : Field} {n : Nat} {cs : List Value} {y0 y1 y2 y3 y4 : DataW H × List MemPlace} (ht : P.underlying t = some (.struct #[f0, f1, f2, f3, f4])) (hl : cs.length = P.cellsOf t)
    (h0 : DataW.trod enc P w base spare held n f0.type ((cs.drop f0.offset).take (P.cellsOf f0.type)) = some y0) (h1 : DataW.trod enc P w base spare held n f1.type ((cs.drop f1.offset).take (P.cellsOf f1.type)) = some y1)
    (h2 : DataW.trod enc P w base spare held n f2.type ((cs.drop f2.offset).take (P.cellsOf f2.type)) = some y2) (h3 : DataW.trod enc P w base spare held n f3.type ((cs.drop f3.offset).take (P.cellsOf f3.type)) = some y3)
    (h4 : DataW.trod enc P w base spare held n f4.type ((cs.drop f4.offset).take (P.cellsOf f4.type)) = some y4) :
    DataW.trod enc P w base spare held (n + 1) t cs = some (.agg [y0.1, y1.1, y2.1, y3.1, y4.1], y0.2 ++ (y1.2 ++ (y2.2 ++ (y3.2 ++ y4.2)))) := by
  have := trod_struct_mk (enc := enc) (w := w) (base := base) (spare := spare) (held := held) (n := n) (xs := [y0, y1, y2, y3, y4]) ht hl (by simp [h0, h1, h2, h3, h4])
  simpa using this
end
section
variable {H : Type} {enc : TypeId × Value → H} {base : Nat} {spare : Nat → Bool} {held : Bool}
theorem cells40 : Tryd.prog.cellsOf 40 = 5 := by kernel_rfl
theorem cells2 : Tryd.prog.cellsOf 2 = 1 := by kernel_rfl
theorem cells9 : Tryd.prog.cellsOf 9 = 1 := by kernel_rfl
theorem cells4 : Tryd.prog.cellsOf 4 = 1 := by kernel_rfl
set_option maxRecDepth 100000 in
theorem open40 {r : Reach} {b0 : Nat} {w : World} {v : Value} {d : DataW H} {p : List MemPlace} (hv : Value.okWide Tryd.prog w r b0 40 v) (h : DataW.Trod enc Tryd.prog w base spare held 40 v d p) :
    ∃ (n m : Int) (s t : ByteArray) (b : Bool), v = .agg #[.int .i64 n, .int .i64 m, .string s, .string t, .bool b] ∧ p = [] ∧ ∀ (w' : World) (base' : Nat) (spare' : Nat → Bool) (held' : Bool), DataW.Trod enc Tryd.prog w' base' spare' held' 40 v d [] := by
  obtain ⟨cs, rfl, hsz⟩ := okWide_struct Tryd.underlying40 hv
  obtain ⟨v0, v1, v2, v3, v4, rfl⟩ := array5 (hsz.trans cells40)
  obtain ⟨fuel, hf⟩ := h
  obtain ⟨y0, y1, y2, y3, y4, fu, hx, _, h0, h1, h2, h3, h4⟩ := trod_struct5 Tryd.underlying40 hf
  simp only [Prod.mk.injEq] at hx
  obtain ⟨rfl, rfl⟩ := hx
  simp [Value.cells, cells2, cells4, cells9] at h0 h1 h2 h3 h4
  obtain ⟨n, e0, rfl, wf0⟩ := DataW.trod_int Tryd.underlying2 h0
  obtain ⟨m, e1, rfl, wf1⟩ := DataW.trod_int Tryd.underlying2 h1
  obtain ⟨s, e2, rfl, wf2⟩ := DataW.trod_string Tryd.underlying9 h2
  obtain ⟨t, e3, rfl, wf3⟩ := DataW.trod_string Tryd.underlying9 h3
  obtain ⟨b, e4, rfl⟩ := DataW.trod_bool Tryd.underlying4 h4
  cases e0; cases e1; cases e2; cases e3; cases e4
  refine ⟨n, m, s, t, b, rfl, rfl, fun w' base' spare' held' => ⟨2, ?_⟩⟩
  have k := trod_struct5_mk (enc := enc) (w := w') (base := base') (spare := spare') (held := held') (n := 1) (cs := [.int .i64 n, .int .i64 m, .string s, .string t, .bool b])
    (y0 := (.lit (.int .i64 n), [])) (y1 := (.lit (.int .i64 m), [])) (y2 := (.lit (.string s.data.toList), [])) (y3 := (.lit (.string t.data.toList), [])) (y4 := (.lit (.bool b), [])) Tryd.underlying40 (by simp [cells40])
    (by simpa [cells2] using ti Tryd.underlying2 wf0) (by simpa [cells2] using ti Tryd.underlying2 wf1) (by simpa [cells9] using ts Tryd.underlying9 wf2) (by simpa [cells9] using ts Tryd.underlying9 wf3) (by simpa [cells4] using tb Tryd.underlying4)
  simpa [Value.cells] using k
end
theorem rel40 (ρ : Rho) (n m : Int) (s t : ByteArray) (b : Bool) : VRel ρ (.agg [.int .i64 n, .int .i64 m, .str (nums s), .str (nums t), .bool b]) (.agg #[.int .i64 n, .int .i64 m, .string s, .string t, .bool b]) := by
  rw [VRel]
  refine ⟨_, rfl, ?_, ?_⟩
  · exact LRel.cons (by simp [VRel]) (LRel.cons (by simp [VRel]) (LRel.cons (by rw [VRel]; exact ⟨s, rfl, rfl⟩) (LRel.cons (by rw [VRel]; exact ⟨t, rfl, rfl⟩) (LRel.cons (by simp [VRel]) (by simp [LRel])))))
  · simp [Value.oneCell']
end Go.Proofs.YtpejppacnecbfaaDoor.fns
