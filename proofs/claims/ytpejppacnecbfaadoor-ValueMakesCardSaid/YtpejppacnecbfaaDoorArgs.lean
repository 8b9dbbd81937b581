/-
  A value as an argument: opened, and shut again.
-/
import Derived.Test.YtpejppacnecbfaaDoorLaws
import Derived.Lib.SmallJoins
namespace Go.Proofs.YtpejppacnecbfaaDoor.fns
open Go Go.Am Go.RowKit Go.ChangeShapes Go.WideShapes Go.ChangeAt Go.Proofs.YtpejppacnecbfaaDoor.laid

def nums (s : ByteArray) : List Nat := s.data.toList.map UInt8.toNat
section
variable {H : Type} {enc : TypeId × Value → H} {base : Nat} {spare : Nat → Bool} {held : Bool}
theorem ti {w : World} {k : IntKind} {n : Int} {t : TypeId} (ht : Tryd.prog.underlying t = some (.int k)) (h : (Lit.int k n).wf = true) : DataW.trod enc Tryd.prog w base spare held 1 t [.int k n] = some (.lit (.int k n), []) := by
  simp [DataW.trod, ht, h]
theorem ts {w : World} {s : ByteArray} {t : TypeId} (ht : Tryd.prog.underlying t = some .string) (h : s.size ≤ maxLen) : DataW.trod enc Tryd.prog w base spare held 1 t [.string s] = some (.lit (.string s.data.toList), []) := by
  simp [DataW.trod, ht, h]
theorem tb {w : World} {b : Bool} {t : TypeId} (ht : Tryd.prog.underlying t = some .bool) : DataW.trod enc Tryd.prog w base spare held 1 t [.bool b] = some (.lit (.bool b), []) := by
  simp [DataW.trod, ht]
theorem cells23 : Tryd.prog.cellsOf 23 = 4 := by kernel_rfl
set_option maxRecDepth 100000 in
theorem open23 {r : Reach} {b0 : Nat} {w : World} {v : Value} {d : DataW H} {p : List MemPlace} (hv : Value.okWide Tryd.prog w r b0 23 v) (h : DataW.Trod enc Tryd.prog w base spare held 23 v d p) :
    ∃ (k n : Int) (s : ByteArray) (b : Bool), v = .agg #[.int .i64 k, .int .i64 n, .string s, .bool b] ∧ p = [] ∧ ∀ (w' : World) (base' : Nat) (spare' : Nat → Bool) (held' : Bool), DataW.Trod enc Tryd.prog w' base' spare' held' 23 v d [] := by
  obtain ⟨v0, v1, v2, v3, y0, y1, y2, y3, n, rfl, rfl, rfl, h0, h1, h2, h3⟩ := Go.Joins.open_agg4 Tryd.underlying23 (by kernel_rfl) cells23 hv h
  obtain ⟨k, e0, rfl, wf0⟩ := DataW.trod_int Tryd.underlying3 h0
  obtain ⟨m, e1, rfl, wf1⟩ := DataW.trod_int Tryd.underlying2 h1
  obtain ⟨s, e2, rfl, wf2⟩ := DataW.trod_string Tryd.underlying9 h2
  obtain ⟨b, e3, rfl⟩ := DataW.trod_bool Tryd.underlying4 h3
  cases e0; cases e1; cases e2; cases e3
  refine ⟨k, m, s, b, rfl, rfl, fun w' base' spare' held' => ?_⟩
  exact Go.Joins.shut_agg4 (y0 := (.lit (.int .i64 k), [])) (y1 := (.lit (.int .i64 m), [])) (y2 := (.lit (.string s.data.toList), [])) (y3 := (.lit (.bool b), [])) Tryd.underlying23 (by kernel_rfl) cells23
    ⟨1, ti Tryd.underlying3 wf0⟩ ⟨1, ti Tryd.underlying2 wf1⟩ ⟨1, ts Tryd.underlying9 wf2⟩ ⟨1, tb Tryd.underlying4⟩
end
theorem rel23 (ρ : Rho) (k n : Int) (s : ByteArray) (b : Bool) : VRel ρ (.agg [.int .i64 k, .int .i64 n, .str (nums s), .bool b]) (.agg #[.int .i64 k, .int .i64 n, .string s, .bool b]) := by
  rw [VRel]
  refine ⟨_, rfl, ?_, ?_⟩
  · exact LRel.cons (by simp [VRel]) (LRel.cons (by simp [VRel]) (LRel.cons (by rw [VRel]; exact ⟨s, rfl, rfl⟩) (LRel.cons (by simp [VRel]) (by simp [LRel]))))
  · simp [Value.oneCell']
end Go.Proofs.YtpejppacnecbfaaDoor.fns
