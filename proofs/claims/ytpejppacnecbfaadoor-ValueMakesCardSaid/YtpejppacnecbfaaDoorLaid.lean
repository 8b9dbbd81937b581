/-
  What the listed package-level variables hold, as the abstract machine wants it; a world that meets the condition.
-/
import Derived.Test.YtpejppacnecbfaaDoorRows
import Derived.Test.YtpejppacnecbfaaDoorAmPrim
import Derived.ChangeSame
import Derived.ChangeVars
import Derived.JoinedOf
import Derived.RowKit
import Derived.LaidLaws
import Derived.Lib.LaidTab
import Derived.WalkKit
import Derived.ProofKit
import Derived.OpenShut
namespace Go.Proofs.YtpejppacnecbfaaDoor.laid
open Go Go.Am Go.ChangeShapes Go.WideShapes Go.ChangeAt Go.RowKit

noncomputable abbrev P : Program := Tryd.prog
noncomputable abbrev L : List (String × DataW Unit) := Rows.valueKnownRow.laid

def db32 : List Int := [0, 1, 28, 2, 29, 14, 24, 3, 30, 22, 20, 15, 25, 17, 4, 8, 31, 27, 13, 23, 21, 19, 16, 7, 26, 12, 18, 6, 11, 5, 10, 9]
def db64 : List Int := [0, 1, 56, 2, 57, 49, 28, 3, 61, 58, 42, 50, 38, 29, 17, 4, 62, 47, 59, 36, 45, 43, 51, 22, 53, 39, 33, 30, 24, 18, 12, 5, 63, 55, 48, 27, 60, 41, 37, 16, 46, 35, 44, 21, 52, 32, 23, 11, 54, 26, 40, 15, 34, 20, 31, 10, 25, 14, 19, 9, 13, 8, 7, 6]
def p10 : List Int := [1, 10, 100, 1000, 10000, 100000, 1000000, 10000000, 100000000, 1000000000, 10000000000, 100000000000, 1000000000000, 10000000000000, 100000000000000, 1000000000000000, 10000000000000000, 100000000000000000, 1000000000000000000, 10000000000000000000]

noncomputable def A0 : Am.Ask := {
  eqs := [23],
  exts := [(47, .cmpstr), (63, .ident)],
  globs := [(4, db32.map (AV.int .u8)), (5, db64.map (AV.int .u8)), (1, p10.map (AV.int .u64)), (3, [.iface 104 .top]), (2, [.iface 104 .top])] }

theorem own : ownKnob P.godebug = none := by kernel_rfl
theorem names : P.funcs.toList.all (fun fn => !(fn.name == "runtime.NumGoroutine")) = true := by kernel_rfl
theorem stood23 : P.stoodInHeld 23 = false ∧ P.eqGuardType P.depth 23 = false := ⟨by kernel_rfl, by kernel_rfl⟩
theorem fields23 : (P.fieldsOf 23).toList.all (fun f => !(f.name == "_")) = true := by kernel_rfl
theorem ext63 (v : Value) (w : World) : (callFunc 63 #[v]).run P w = .ok (.value v) w := by kernel_rfl
theorem ext47 (a b : ByteArray) (w : World) : (callFunc 47 #[.string a, .string b]).run P w = .ok (.value (.int .i64 (Lib.compareBytes a.data.toList b.data.toList))) w := by
  have h : (callFunc 47 #[.string a, .string b]).run P w = ((do pure (.value (← Extern.BytealgCompare.compare #[.string a, .string b])) : Sem Next)).run P w := by kernel_rfl
  rw [h]
  simp only [Sem.run_bind, Lib.run_compareString, Result.andThen_ok, Sem.run_pure]
theorem ready (A : Am.Ask) (h1 : A.eqs = A0.eqs) (h2 : A.exts = A0.exts) : Am.Ready P A := by
  refine ⟨by kernel_rfl, fun t h => ?_, Am.enters_ok names, fun x h => ?_⟩
  · rw [h1] at h
    simp only [A0, List.mem_cons, List.not_mem_nil, or_false] at h
    subst h
    refine ⟨stood23.1, stood23.2, fun f hf => ?_⟩
    have := List.all_eq_true.1 fields23 f hf
    simpa using this
  · rw [h2] at h
    simp only [A0, List.mem_cons, List.not_mem_nil, or_false] at h
    rcases h with rfl | rfl
    · intro a b w
      rw [← cmp_bytes]
      exact ext47 a b w
    · exact ext63

/-! ### From the row's condition -/
theorem gl0 : P.globalNamed ((L.map (·.1)).getD 0 default) = some 4 := by kernel_rfl
theorem gl1 : P.globalNamed ((L.map (·.1)).getD 1 default) = some 5 := by kernel_rfl
theorem gl2 : P.globalNamed ((L.map (·.1)).getD 2 default) = some 1 := by kernel_rfl
theorem gl3 : P.globalNamed ((L.map (·.1)).getD 3 default) = some 3 := by kernel_rfl
theorem gl4 : P.globalNamed ((L.map (·.1)).getD 4 default) = some 2 := by kernel_rfl
theorem ty4 : (P.globals[4]?).map (·.type) = some 107 := by kernel_rfl
theorem ty5 : (P.globals[5]?).map (·.type) = some 108 := by kernel_rfl
theorem ty1 : (P.globals[1]?).map (·.type) = some 92 := by kernel_rfl
theorem ty3 : (P.globals[3]?).map (·.type) = some 58 := by kernel_rfl
theorem ty2 : (P.globals[2]?).map (·.type) = some 58 := by kernel_rfl
theorem u107 : P.underlying 107 = some (.array 32 5) := by kernel_rfl
theorem u108 : P.underlying 108 = some (.array 64 5) := by kernel_rfl
theorem u92 : P.underlying 92 = some (.array 20 55) := by kernel_rfl
theorem u5 : P.underlying 5 = some (.int .u8) := by kernel_rfl
theorem u55 : P.underlying 55 = some (.int .u64) := by kernel_rfl
theorem c5 : P.cellsOf 5 = 1 := by kernel_rfl
theorem c55 : P.cellsOf 55 = 1 := by kernel_rfl
theorem c107 : P.cellsOf 107 = 32 := by kernel_rfl
theorem c108 : P.cellsOf 108 = 64 := by kernel_rfl
theorem c92 : P.cellsOf 92 = 20 := by kernel_rfl

def B (b : Nat) : Prop := b ∈ [4, 5, 1, 3, 2]
theorem var_heap {W : World} {n : String} {g : Nat} {cs : Array Value} (hg : P.globalNamed n = some g) (h : W.var? P n = some cs) : ∃ e fr, W.heap[g]? = some (.cells cs e fr) := by
  unfold World.var? at h
  rw [hg] at h
  simp only [Option.bind_some] at h
  split at h
  · rename_i c e fr hh
    simp only [Option.some.injEq] at h
    subst h
    exact ⟨e, fr, hh⟩
  · cases h
theorem glob_tab {W : World} {n : String} {g : Nat} {k : IntKind} {zs : List Int} (hb : B g) (hg : P.globalNamed n = some g) (h : W.var? P n = some (zs.map fun z => Value.int k z).toArray) : GlobOk W B g (zs.map (AV.int k)) := by
  obtain ⟨e, fr, hh⟩ := var_heap hg h
  refine ⟨hb, _, e, fr, hh, fun i x hx => ?_⟩
  rw [List.getElem?_map] at hx
  cases hz : zs[i]? with
  | none => rw [hz] at hx; cases hx
  | some z =>
    rw [hz] at hx
    simp only [Option.map_some, Option.some.injEq] at hx
    subst hx
    exact ⟨.int k z, by simp [hz], fun ρ => by simp [VRel], rfl⟩
theorem glob_iface {W : World} {n : String} {g : Nat} {u : TypeId} {v : Value} (hb : B g) (hg : P.globalNamed n = some g) (h : W.var? P n = some #[.iface u v]) : GlobOk W B g [.iface u .top] := by
  obtain ⟨e, fr, hh⟩ := var_heap hg h
  refine ⟨hb, _, e, fr, hh, fun i x hx => ?_⟩
  match i with
  | 0 =>
    simp at hx
    subst hx
    exact ⟨.iface u v, rfl, fun ρ => by simp [VRel], rfl⟩
  | i + 1 => simp at hx

noncomputable def nmOf (d : DataW Unit) : String := match d with | .iface n _ => n | _ => default
theorem row104 (u : TypeId) (h : P.typeName? 3 u = some (nmOf Rows.laid_strconv_ErrRange)) : u = 104 :=
  typeName_ptr_named (nm := "errors.errorString") (by kernel_rfl) (by kernel_rfl) (by decide) u (h.trans (congrArg some (by decide)))

theorem globs_of {W : World} (h : laidMet P L W) : ∀ x, x ∈ A0.globs → GlobOk W B x.1 x.2 := by
  obtain ⟨ps, ⟨g0, t0, cs0, f0, p0, q0, hg0, ht0, hv0, hd0, ⟨g1, t1, cs1, f1, p1, q1, hg1, ht1, hv1, hd1, ⟨g2, t2, cs2, f2, p2, q2, hg2, ht2, hv2, hd2,
    ⟨g3, t3, cs3, f3, p3, q3, hg3, ht3, hv3, hd3, ⟨g4, t4, cs4, f4, p4, q4, hg4, ht4, hv4, hd4, _, _⟩, _⟩, _⟩, _⟩, _⟩, _, _⟩ := h
  obtain rfl := Option.some.inj (gl0.symm.trans hg0)
  obtain rfl := Option.some.inj (gl1.symm.trans hg1)
  obtain rfl := Option.some.inj (gl2.symm.trans hg2)
  obtain rfl := Option.some.inj (gl3.symm.trans hg3)
  obtain rfl := Option.some.inj (gl4.symm.trans hg4)
  obtain rfl := Option.some.inj (ty4.symm.trans ht0)
  obtain rfl := Option.some.inj (ty5.symm.trans ht1)
  obtain rfl := Option.some.inj (ty1.symm.trans ht2)
  obtain rfl := Option.some.inj (ty3.symm.trans ht3)
  obtain rfl := Option.some.inj (ty2.symm.trans ht4)
  have e0 : cs0 = (db32.map fun z => Value.int .u8 z).toArray := Array.ext' (by simpa using Lib.cells_of_tab (zs := db32) u107 u5 c5 c107 hd0)
  have e1 : cs1 = (db64.map fun z => Value.int .u8 z).toArray := Array.ext' (by simpa using Lib.cells_of_tab (zs := db64) u108 u5 c5 c108 hd1)
  have e2 : cs2 = (p10.map fun z => Value.int .u64 z).toArray := Array.ext' (by simpa using Lib.cells_of_tab (zs := p10) u92 u55 c55 c92 hd2)
  obtain ⟨_, v3, y3, hc3, hn3, _⟩ := iface_of_trod Tryd.underlying58 hd3
  obtain ⟨_, v4, y4, hc4, hn4, _⟩ := iface_of_trod Tryd.underlying58 hd4
  obtain rfl := row104 v3 hn3
  obtain rfl := row104 v4 hn4
  have e3 : cs3 = #[.iface 104 y3] := Array.ext' hc3
  have e4 : cs4 = #[.iface 104 y4] := Array.ext' hc4
  subst e0 e1 e2 e3 e4
  intro x hx
  simp only [A0, List.mem_cons, List.not_mem_nil, or_false] at hx
  rcases hx with rfl | rfl | rfl | rfl | rfl
  · exact glob_tab (by simp [B]) hg0 hv0
  · exact glob_tab (by simp [B]) hg1 hv1
  · exact glob_tab (by simp [B]) hg2 hv2
  · exact glob_iface (by simp [B]) hg3 hv3
  · exact glob_iface (by simp [B]) hg4 hv4
theorem base_of {W : World} (h : ∀ x, x ∈ A0.globs → GlobOk W B x.1 x.2) (b : Nat) (hb : B b) : b < W.heap.size ∧ W.heap[b]? = W.heap[b]? := by
  refine ⟨?_, rfl⟩
  have key : ∀ g cs, GlobOk W B g cs → g < W.heap.size := by
    rintro g cs ⟨_, C, e, fr, hh, _⟩
    exact (Array.getElem?_eq_some_iff.1 hh).1
  simp only [B, List.mem_cons, List.not_mem_nil, or_false] at hb
  rcases hb with rfl | rfl | rfl | rfl | rfl
  · exact key _ _ (h (4, db32.map (AV.int .u8)) (by simp [A0]))
  · exact key _ _ (h (5, db64.map (AV.int .u8)) (by simp [A0]))
  · exact key _ _ (h (1, p10.map (AV.int .u64)) (by simp [A0]))
  · exact key _ _ (h (3, [.iface 104 .top]) (by simp [A0]))
  · exact key _ _ (h (2, [.iface 104 .top]) (by simp [A0]))

/-! ### A world that meets the condition -/
def textOf (d : DataW Unit) : ByteArray := match d with
  | .iface _ (.ptr (.agg [.lit (.string s)])) => ⟨s.toArray⟩
  | _ => default
noncomputable def low : Nat := (World.holding P default ⟨#[], #[], []⟩).heap.size
noncomputable def laidWorld (os : Os) : World :=
  let w0 := World.holding P os ⟨#[.cells #[.string (textOf Rows.laid_strconv_ErrRange)] 106, .cells #[.string (textOf Rows.laid_strconv_ErrSyntax)] 106], #[], []⟩
  { w0 with heap := (((((w0.heap.modify 4 fun
      | .cells _ t frozen => .cells (db32.map fun z => Value.int .u8 z).toArray t frozen
      | o => o).modify 5 fun
      | .cells _ t frozen => .cells (db64.map fun z => Value.int .u8 z).toArray t frozen
      | o => o).modify 1 fun
      | .cells _ t frozen => .cells (p10.map fun z => Value.int .u64 z).toArray t frozen
      | o => o).modify 3 fun
      | .cells _ t frozen => .cells #[.iface 104 (.pointer (some ⟨low, 0, none⟩))] t frozen
      | o => o).modify 2 fun
      | .cells _ t frozen => .cells #[.iface 104 (.pointer (some ⟨low + 1, 0, none⟩))] t frozen
      | o => o) }
theorem laidWorld_met (os : Os) (args : Array Value) : laidMet P L ((laidWorld os).forCall (fun _ _ => 0) ⟨#[], args, []⟩).memory :=
  laidMet_of_run' 8 (by kernel_rfl) (by kernel_rfl)
end Go.Proofs.YtpejppacnecbfaaDoor.laid
