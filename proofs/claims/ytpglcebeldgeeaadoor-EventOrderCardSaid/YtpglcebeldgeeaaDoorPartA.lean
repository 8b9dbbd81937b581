/-
  What the listed package-level variables hold, as the abstract machine wants it; a world that meets the condition.
  Texts of values, and values of texts: plain Lean, no program.
  The reference's reading of texts: plain Lean; both read alike.
  The context of the proofs, and the facts of types and functions that simp wants.
  The value's small functions: made, has, May.
  Numbers' digits: how many there are; small numbers.
  How many digits a number has.
-/
import Derived.Test.YtpglcebeldgeeaaDoorRows
import Derived.Test.YtpglcebeldgeeaaDoorAmPrim
import Derived.Test.YtpglcebeldgeeaaDoorAmExt
import Derived.ChangeSame
import Derived.ChangeVars
import Derived.JoinedOf
import Derived.RowKit
import Derived.LaidLaws
import Derived.Lib.LaidTab
import Derived.WalkKit
import Derived.ProofKit
import Derived.OpenShut
import Derived.Lib.ItoaNum
import Derived.Test.YtpglcebeldgeeaaDoorAmText
import Derived.Test.YtpglcebeldgeeaaDoorAmArgs
import Derived.Test.YtpglcebeldgeeaaDoorAmCut
import Derived.IntWalk
import Derived.Lib.BitFns
namespace Go.Proofs.YtpglcebeldgeeaaDoor.laid
open Go Go.Am Go.ChangeShapes Go.WideShapes Go.ChangeAt Go.RowKit

noncomputable abbrev P : Program := Tryd.prog
noncomputable abbrev L : List (String × DataW Unit) := Rows.eventBackRow.laid

def db32 : List Int := [0, 1, 28, 2, 29, 14, 24, 3, 30, 22, 20, 15, 25, 17, 4, 8, 31, 27, 13, 23, 21, 19, 16, 7, 26, 12, 18, 6, 11, 5, 10, 9]
def db64 : List Int := [0, 1, 56, 2, 57, 49, 28, 3, 61, 58, 42, 50, 38, 29, 17, 4, 62, 47, 59, 36, 45, 43, 51, 22, 53, 39, 33, 30, 24, 18, 12, 5, 63, 55, 48, 27, 60, 41, 37, 16, 46, 35, 44, 21, 52, 32, 23, 11, 54, 26, 40, 15, 34, 20, 31, 10, 25, 14, 19, 9, 13, 8, 7, 6]
def p10 : List Int := [1, 10, 100, 1000, 10000, 100000, 1000000, 10000000, 100000000, 1000000000, 10000000000, 100000000000, 1000000000000, 10000000000000, 100000000000000, 1000000000000000, 10000000000000000, 100000000000000000, 1000000000000000000, 10000000000000000000]

noncomputable def A0 : Am.Ask := {
  eqs := [36, 38],
  exts := [(65, .cmpstr), (49, .ident), (93, .idxByte)],
  globs := [(4, db32.map (AV.int .u8)), (5, db64.map (AV.int .u8)), (1, p10.map (AV.int .u64)), (3, [.iface 137 .top]), (2, [.iface 137 .top])] }

theorem own : ownKnob P.godebug = none := by kernel_rfl
theorem names : P.funcs.toList.all (fun fn => !(fn.name == "runtime.NumGoroutine")) = true := by kernel_rfl
theorem stood36 : P.stoodInHeld 36 = false ∧ P.eqGuardType P.depth 36 = false := ⟨by kernel_rfl, by kernel_rfl⟩
theorem fields36 : (P.fieldsOf 36).toList.all (fun f => !(f.name == "_")) = true := by kernel_rfl
theorem stood38 : P.stoodInHeld 38 = false ∧ P.eqGuardType P.depth 38 = false := ⟨by kernel_rfl, by kernel_rfl⟩
theorem fields38 : (P.fieldsOf 38).toList.all (fun f => !(f.name == "_")) = true := by kernel_rfl
theorem ext49 (v : Value) (w : World) : (callFunc 49 #[v]).run P w = .ok (.value v) w := by kernel_rfl
theorem ext65 (a b : ByteArray) (w : World) : (callFunc 65 #[.string a, .string b]).run P w = .ok (.value (.int .i64 (Lib.compareBytes a.data.toList b.data.toList))) w := by
  have h : (callFunc 65 #[.string a, .string b]).run P w = ((do pure (.value (← Extern.BytealgCompare.compare #[.string a, .string b])) : Sem Next)).run P w := by kernel_rfl
  rw [h]
  simp only [Sem.run_bind, Lib.run_compareString, Result.andThen_ok, Sem.run_pure]
theorem run93 (a : ByteArray) (c : Int) (w : World) : (callFunc 93 #[.string a, .int .u8 c]).run P w = ((Extern.BytealgIndexByte.indexByte #[.string a, .int .u8 c]).run P w).andThen fun v w' => .ok (.value v) w' := by
  have h : (callFunc 93 #[.string a, .int .u8 c]).run P w = ((do pure (.value (← Extern.BytealgIndexByte.indexByte #[.string a, .int .u8 c])) : Sem Next)).run P w := by kernel_rfl
  rw [h]
  simp only [Sem.run_bind, Sem.run_pure]
theorem ext93 (a : ByteArray) (c : Nat) (w : World) (hc : c < 256) : (callFunc 93 #[.string a, .int .u8 c]).run P w = .ok (.value (match Am.idxB c (a.data.toList.map UInt8.toNat) 0 with | some n => .int .i64 n | none => .int .i64 (-1))) w := by
  have k := Am.firstIdx_idxB a c hc
  rw [run93, run_indexByte_string]
  cases h : Am.idxB c (a.data.toList.map UInt8.toNat) 0 with
  | none => rw [h] at k; rw [k]; rfl
  | some n => rw [h] at k; rw [k]; rfl
theorem ready (A : Am.Ask) (h1 : A.eqs = A0.eqs) (h2 : A.exts = A0.exts) : Am.Ready P A := by
  refine ⟨by kernel_rfl, fun t h => ?_, Am.enters_ok names, fun x h => ?_⟩
  · rw [h1] at h
    simp only [A0, List.mem_cons, List.not_mem_nil, or_false] at h
    rcases h with rfl | rfl
    · refine ⟨stood36.1, stood36.2, fun f hf => ?_⟩
      have := List.all_eq_true.1 fields36 f hf
      simpa using this
    · refine ⟨stood38.1, stood38.2, fun f hf => ?_⟩
      have := List.all_eq_true.1 fields38 f hf
      simpa using this
  · rw [h2] at h
    simp only [A0, List.mem_cons, List.not_mem_nil, or_false] at h
    rcases h with rfl | rfl | rfl
    · intro a b w
      rw [← cmp_bytes]
      exact ext65 a b w
    · exact ext49
    · exact ext93

/-! ### From the row's condition -/
theorem gl0 : P.globalNamed ((L.map (·.1)).getD 0 default) = some 4 := by kernel_rfl
theorem gl1 : P.globalNamed ((L.map (·.1)).getD 1 default) = some 5 := by kernel_rfl
theorem gl2 : P.globalNamed ((L.map (·.1)).getD 2 default) = some 1 := by kernel_rfl
theorem gl3 : P.globalNamed ((L.map (·.1)).getD 3 default) = some 3 := by kernel_rfl
theorem gl4 : P.globalNamed ((L.map (·.1)).getD 4 default) = some 2 := by kernel_rfl
theorem ty4 : (P.globals[4]?).map (·.type) = some 140 := by kernel_rfl
theorem ty5 : (P.globals[5]?).map (·.type) = some 141 := by kernel_rfl
theorem ty1 : (P.globals[1]?).map (·.type) = some 125 := by kernel_rfl
theorem ty3 : (P.globals[3]?).map (·.type) = some 49 := by kernel_rfl
theorem ty2 : (P.globals[2]?).map (·.type) = some 49 := by kernel_rfl
theorem u140 : P.underlying 140 = some (.array 32 5) := by kernel_rfl
theorem u141 : P.underlying 141 = some (.array 64 5) := by kernel_rfl
theorem u125 : P.underlying 125 = some (.array 20 93) := by kernel_rfl
theorem u5 : P.underlying 5 = some (.int .u8) := by kernel_rfl
theorem u93 : P.underlying 93 = some (.int .u64) := by kernel_rfl
theorem c5 : P.cellsOf 5 = 1 := by kernel_rfl
theorem c93 : P.cellsOf 93 = 1 := by kernel_rfl
theorem c140 : P.cellsOf 140 = 32 := by kernel_rfl
theorem c141 : P.cellsOf 141 = 64 := by kernel_rfl
theorem c125 : P.cellsOf 125 = 20 := by kernel_rfl

def B (b : Nat) : Prop := b ∈ [4, 5, 1, 3, 2]
theorem var_heap {W : World} {n : String} {g : Nat} {cs : Array Value} (hg : P.globalNamed n = some g) (h : W.var? P n = some cs) : ∃ e fr, W.heap[g]? = some (.cells cs e fr) := by
  unfold World.var? at h
  rw [hg] at h
  simp only [Option.bind_some] at h
  split at h
  · rename_i c e fr hh
    simp only [Option.some.injEq] at h
    subst h
    exact ⟨e, fr, hh⟩
  · cases h
theorem glob_tab {W : World} {n : String} {g : Nat} {k : IntKind} {zs : List Int} (hb : B g) (hg : P.globalNamed n = some g) (h : W.var? P n = some (zs.map fun z => Value.int k z).toArray) : GlobOk W B g (zs.map (AV.int k)) := by
  obtain ⟨e, fr, hh⟩ := var_heap hg h
  refine ⟨hb, _, e, fr, hh, fun i x hx => ?_⟩
  rw [List.getElem?_map] at hx
  cases hz : zs[i]? with
  | none => rw [hz] at hx; cases hx
  | some z =>
    rw [hz] at hx
    simp only [Option.map_some, Option.some.injEq] at hx
    subst hx
    exact ⟨.int k z, by simp [hz], fun ρ => by simp [VRel], rfl⟩
theorem glob_iface {W : World} {n : String} {g : Nat} {u : TypeId} {v : Value} (hb : B g) (hg : P.globalNamed n = some g) (h : W.var? P n = some #[.iface u v]) : GlobOk W B g [.iface u .top] := by
  obtain ⟨e, fr, hh⟩ := var_heap hg h
  refine ⟨hb, _, e, fr, hh, fun i x hx => ?_⟩
  match i with
  | 0 =>
    simp at hx
    subst hx
    exact ⟨.iface u v, rfl, fun ρ => by simp [VRel], rfl⟩
  | i + 1 => simp at hx

noncomputable def nmOf (d : DataW Unit) : String := match d with | .iface n _ => n | _ => default
theorem row137 (u : TypeId) (h : P.typeName? 3 u = some (nmOf Rows.laid_strconv_ErrRange)) : u = 137 :=
  typeName_ptr_named (nm := "errors.errorString") (by kernel_rfl) (by kernel_rfl) (by decide) u (h.trans (congrArg some (by decide)))

theorem globs_of {W : World} (h : laidMet P L W) : ∀ x, x ∈ A0.globs → GlobOk W B x.1 x.2 := by
  obtain ⟨ps, ⟨g0, t0, cs0, f0, p0, q0, hg0, ht0, hv0, hd0, ⟨g1, t1, cs1, f1, p1, q1, hg1, ht1, hv1, hd1, ⟨g2, t2, cs2, f2, p2, q2, hg2, ht2, hv2, hd2,
    ⟨g3, t3, cs3, f3, p3, q3, hg3, ht3, hv3, hd3, ⟨g4, t4, cs4, f4, p4, q4, hg4, ht4, hv4, hd4, _, _⟩, _⟩, _⟩, _⟩, _⟩, _, _⟩ := h
  obtain rfl := Option.some.inj (gl0.symm.trans hg0)
  obtain rfl := Option.some.inj (gl1.symm.trans hg1)
  obtain rfl := Option.some.inj (gl2.symm.trans hg2)
  obtain rfl := Option.some.inj (gl3.symm.trans hg3)
  obtain rfl := Option.some.inj (gl4.symm.trans hg4)
  obtain rfl := Option.some.inj (ty4.symm.trans ht0)
  obtain rfl := Option.some.inj (ty5.symm.trans ht1)
  obtain rfl := Option.some.inj (ty1.symm.trans ht2)
  obtain rfl := Option.some.inj (ty3.symm.trans ht3)
  obtain rfl := Option.some.inj (ty2.symm.trans ht4)
  have e0 : cs0 = (db32.map fun z => Value.int .u8 z).toArray := Array.ext' (by simpa using Lib.cells_of_tab (zs := db32) u140 u5 c5 c140 hd0)
  have e1 : cs1 = (db64.map fun z => Value.int .u8 z).toArray := Array.ext' (by simpa using Lib.cells_of_tab (zs := db64) u141 u5 c5 c141 hd1)
  have e2 : cs2 = (p10.map fun z => Value.int .u64 z).toArray := Array.ext' (by simpa using Lib.cells_of_tab (zs := p10) u125 u93 c93 c125 hd2)
  obtain ⟨_, v3, y3, hc3, hn3, _⟩ := iface_of_trod Tryd.underlying49 hd3
  obtain ⟨_, v4, y4, hc4, hn4, _⟩ := iface_of_trod Tryd.underlying49 hd4
  obtain rfl := row137 v3 hn3
  obtain rfl := row137 v4 hn4
  have e3 : cs3 = #[.iface 137 y3] := Array.ext' hc3
  have e4 : cs4 = #[.iface 137 y4] := Array.ext' hc4
  subst e0 e1 e2 e3 e4
  intro x hx
  simp only [A0, List.mem_cons, List.not_mem_nil, or_false] at hx
  rcases hx with rfl | rfl | rfl | rfl | rfl
  · exact glob_tab (by simp [B]) hg0 hv0
  · exact glob_tab (by simp [B]) hg1 hv1
  · exact glob_tab (by simp [B]) hg2 hv2
  · exact glob_iface (by simp [B]) hg3 hv3
  · exact glob_iface (by simp [B]) hg4 hv4
theorem base_of {W : World} (h : ∀ x, x ∈ A0.globs → GlobOk W B x.1 x.2) (b : Nat) (hb : B b) : b < W.heap.size ∧ W.heap[b]? = W.heap[b]? := by
  refine ⟨?_, rfl⟩
  have key : ∀ g cs, GlobOk W B g cs → g < W.heap.size := by
    rintro g cs ⟨_, C, e, fr, hh, _⟩
    exact (Array.getElem?_eq_some_iff.1 hh).1
  simp only [B, List.mem_cons, List.not_mem_nil, or_false] at hb
  rcases hb with rfl | rfl | rfl | rfl | rfl
  · exact key _ _ (h (4, db32.map (AV.int .u8)) (by simp [A0]))
  · exact key _ _ (h (5, db64.map (AV.int .u8)) (by simp [A0]))
  · exact key _ _ (h (1, p10.map (AV.int .u64)) (by simp [A0]))
  · exact key _ _ (h (3, [.iface 137 .top]) (by simp [A0]))
  · exact key _ _ (h (2, [.iface 137 .top]) (by simp [A0]))

/-! ### A world that meets the condition -/
def textOf (d : DataW Unit) : ByteArray := match d with
  | .iface _ (.ptr (.agg [.lit (.string s)])) => ⟨s.toArray⟩
  | _ => default
noncomputable def low : Nat := (World.holding P default ⟨#[], #[], []⟩).heap.size
noncomputable def laidWorld (os : Os) : World :=
  let w0 := World.holding P os ⟨#[.cells #[.string (textOf Rows.laid_strconv_ErrRange)] 139, .cells #[.string (textOf Rows.laid_strconv_ErrSyntax)] 139], #[], []⟩
  { w0 with heap := (((((w0.heap.modify 4 fun
      | .cells _ t frozen => .cells (db32.map fun z => Value.int .u8 z).toArray t frozen
      | o => o).modify 5 fun
      | .cells _ t frozen => .cells (db64.map fun z => Value.int .u8 z).toArray t frozen
      | o => o).modify 1 fun
      | .cells _ t frozen => .cells (p10.map fun z => Value.int .u64 z).toArray t frozen
      | o => o).modify 3 fun
      | .cells _ t frozen => .cells #[.iface 137 (.pointer (some ⟨low, 0, none⟩))] t frozen
      | o => o).modify 2 fun
      | .cells _ t frozen => .cells #[.iface 137 (.pointer (some ⟨low + 1, 0, none⟩))] t frozen
      | o => o) }
theorem laidWorld_met (os : Os) (args : Array Value) : laidMet P L ((laidWorld os).forCall (fun _ _ => 0) ⟨#[], args, []⟩).memory :=
  laidMet_of_run' 8 (by kernel_rfl) (by kernel_rfl)
end Go.Proofs.YtpglcebeldgeeaaDoor.laid

namespace Go.Proofs.YtpglcebeldgeeaaDoor.val
set_option linter.unusedVariables false
set_option linter.unusedSimpArgs false

/-! ### Numbers -/
def decN (u : Nat) : List Nat := (Lib.decDigits u).map UInt8.toNat
theorem decN_small {u : Nat} (h : u < 10) : decN u = [48 + u] := by
  unfold decN
  rw [Lib.decDigits_one h]
  simp only [List.map_cons, List.map_nil, UInt8.toNat_ofNat']
  congr 1
  omega
theorem decN_big {u : Nat} (h : ¬ u < 10) : decN u = decN (u / 10) ++ [48 + u % 10] := by
  unfold decN
  rw [Lib.decDigits, dif_neg h, List.map_append]
  simp only [List.map_cons, List.map_nil, UInt8.toNat_ofNat']
  congr 2
  omega
theorem decN_len (u : Nat) : (decN u).length = Lib.nDigits u := by unfold decN; rw [List.length_map, Lib.decDigits_length]
theorem decN_digit (u : Nat) : ∀ c, c ∈ decN u → 48 ≤ c ∧ c ≤ 57 := by
  induction u using Nat.strongRecOn with
  | _ u ih =>
    intro c hc
    by_cases h : u < 10
    · rw [decN_small h] at hc
      simp at hc; omega
    · rw [decN_big h] at hc
      rcases List.mem_append.1 hc with hc | hc
      · exact ih (u / 10) (by omega) c hc
      · simp at hc; omega
theorem decN_ne (u : Nat) : decN u ≠ [] := by
  intro h
  have := decN_len u
  rw [h] at this
  have := Lib.nDigits_pos u
  simp at *
  omega
/-- What digits say. -/
def valN (l : List Nat) (acc : Nat) : Nat := l.foldl (fun n c => 10 * n + (c - 48)) acc
theorem valN_snoc (l : List Nat) (c acc : Nat) : valN (l ++ [c]) acc = 10 * valN l acc + (c - 48) := by simp [valN]
theorem valN_dec (u : Nat) : valN (decN u) 0 = u := by
  induction u using Nat.strongRecOn with
  | _ u ih =>
    by_cases h : u < 10
    · rw [decN_small h]; simp [valN]
    · rw [decN_big h, valN_snoc, ih (u / 10) (by omega)]; omega
theorem valN_le (l : List Nat) : ∀ acc, acc ≤ valN l acc := by
  induction l with
  | nil => intro acc; exact Nat.le_refl _
  | cons c l ih =>
    intro acc
    have := ih (10 * acc + (c - 48))
    show acc ≤ valN l (10 * acc + (c - 48))
    omega
/-- Parsing of digits to the base 10 within a bound. -/
def parN (M : Nat) : List Nat → Nat → Option Nat
  | [], acc => some acc
  | c :: l, acc => if 48 ≤ c ∧ c ≤ 57 ∧ 10 * acc + (c - 48) ≤ M then parN M l (10 * acc + (c - 48)) else none
theorem parN_val (M : Nat) : ∀ (l : List Nat) (acc : Nat), (∀ c, c ∈ l → 48 ≤ c ∧ c ≤ 57) → valN l acc ≤ M → parN M l acc = some (valN l acc)
  | [], acc, _, _ => rfl
  | c :: l, acc, h, hM => by
    have h1 := h c (List.mem_cons_self ..)
    have h2 := valN_le l (10 * acc + (c - 48))
    have h3 : valN (c :: l) acc = valN l (10 * acc + (c - 48)) := rfl
    rw [h3] at hM ⊢
    unfold parN
    rw [if_pos ⟨h1.1, h1.2, by omega⟩]
    exact parN_val M l _ (fun d hd => h d (List.mem_cons_of_mem _ hd)) hM
def fmtN (n : Int) : List Nat := if n < 0 then 45 :: decN n.natAbs else decN n.toNat
/-- strconv.ParseInt to the base 10, 64 bits. -/
def magN (l : List Nat) : Option Nat := if l = [] then none else parN 18446744073709551615 l 0
def parI (s : List Nat) : Option Int :=
  match s with
  | 43 :: l => match magN l with | some u => if u < 9223372036854775808 then some u else none | none => none
  | 45 :: l => match magN l with | some u => if u ≤ 9223372036854775808 then some (-(u : Int)) else none | none => none
  | l => match magN l with | some u => if u < 9223372036854775808 then some u else none | none => none
theorem magN_dec {u : Nat} (h : u < 18446744073709551616) : magN (decN u) = some u := by
  unfold magN
  rw [if_neg (decN_ne u), parN_val _ _ _ (decN_digit u) (by rw [valN_dec]; omega), valN_dec]
theorem parI_fmt {n : Int} (h1 : -9223372036854775808 ≤ n) (h2 : n < 9223372036854775808) : parI (fmtN n) = some n := by
  unfold fmtN
  by_cases h : n < 0
  · rw [if_pos h]
    simp only [parI]
    rw [magN_dec (by omega)]
    simp only
    rw [if_pos (by omega)]
    congr 1
    omega
  · rw [if_neg h]
    have hd := decN_digit n.toNat
    have hm := magN_dec (u := n.toNat) (by omega)
    cases hl : decN n.toNat with
    | nil => exact absurd hl (decN_ne _)
    | cons c l =>
      rw [hl] at hd hm
      have := hd c (List.mem_cons_self ..)
      unfold parI
      split
      · rename_i h; simp at h; omega
      · rename_i h; simp at h; omega
      · rw [hm]
        simp only
        rw [if_pos (by omega)]
        congr 1
        omega
theorem parI_quote (l : List Nat) : parI (34 :: l) = none := by
  simp [parI, magN, parN]
theorem parI_word {c : Nat} {l : List Nat} (h : 97 ≤ c) : parI (c :: l) = none := by
  unfold parI
  split
  · rename_i h2; simp at h2; omega
  · rename_i h2; simp at h2; omega
  · unfold magN parN
    rw [if_neg (by simp), if_neg (by omega)]

/-! ### Words -/
def hexD (d : Nat) : Nat := if d < 10 then 48 + d else 87 + d
def q1 (c : Nat) : List Nat := if c < 32 ∨ 126 < c then [92, 120, hexD (c / 16), hexD (c % 16)] else if c = 34 ∨ c = 92 then [92, c] else [c]
def quoteN (s : List Nat) : List Nat := 34 :: s.flatMap q1 ++ [34]
/-- strconv.ParseUint of two places to the base 16. -/
def hexV (c : Nat) : Option Nat := if 48 ≤ c ∧ c ≤ 57 then some (c - 48) else if 97 ≤ c ∧ c ≤ 102 then some (c - 87) else if 65 ≤ c ∧ c ≤ 70 then some (c - 55) else none
def hex2 (a b : Nat) : Option Nat := match hexV a, hexV b with | some x, some y => some (16 * x + y) | _, _ => none
theorem hexV_D {d : Nat} (h : d < 16) : hexV (hexD d) = some d := by
  unfold hexV hexD
  by_cases h1 : d < 10
  · rw [if_pos h1, if_pos (by omega)]
    congr 1; omega
  · rw [if_neg h1, if_neg (by omega), if_pos (by omega)]
    congr 1; omega
theorem hex2_D {c : Nat} (h : c < 256) : hex2 (hexD (c / 16)) (hexD (c % 16)) = some c := by
  unfold hex2
  rw [hexV_D (by omega), hexV_D (by omega)]
  simp only
  congr 1; omega
/-- What stands in a quoted text, from a place on. -/
def unqN : Nat → List Nat → List Nat → Option (List Nat)
  | 0, _, out => some out
  | f + 1, r, out =>
    match r with
    | c :: d :: r => if c = 92 then
        (match r with
          | a :: b :: r' => if d = 120 then (match hex2 a b with | some n => unqN f r' (out ++ [n]) | none => none) else unqN f (a :: b :: r') (out ++ [d])
          | r => unqN f r (out ++ [d]))
      else unqN f (d :: r) (out ++ [c])
    | _ => some out
theorem q1_len (c : Nat) : 1 ≤ (q1 c).length := by
  unfold q1
  split
  · simp
  · split <;> simp
theorem flat_len (s : List Nat) : s.length ≤ (s.flatMap q1).length := by
  induction s with
  | nil => simp
  | cons c s ih => rw [List.flatMap_cons, List.length_append, List.length_cons]; have := q1_len c; omega
theorem unq_quote : ∀ (s : List Nat) (f : Nat) (out : List Nat), (∀ c, c ∈ s → c < 256) → s.length < f → unqN f (s.flatMap q1 ++ [34]) out = some (out ++ s)
  | [], f + 1, out, _, _ => by simp [unqN]
  | c :: s, f + 1, out, h, hf => by
    have hc := h c (List.mem_cons_self ..)
    have ih := unq_quote s f (out ++ [c]) (fun d hd => h d (List.mem_cons_of_mem _ hd)) (by simp at hf; omega)
    obtain ⟨a, r, hr⟩ : ∃ a r, s.flatMap q1 ++ [34] = a :: r := by
      cases h : s.flatMap q1 ++ [34] with
      | nil => simp at h
      | cons a r => exact ⟨a, r, rfl⟩
    rw [List.flatMap_cons, List.append_assoc]
    rw [hr] at ih ⊢
    rw [show out ++ c :: s = (out ++ [c]) ++ s by simp, ← ih]
    unfold q1
    by_cases h1 : c < 32 ∨ 126 < c
    · rw [if_pos h1]
      simp only [List.cons_append, List.nil_append, unqN]
      simp [hex2_D hc]
    · rw [if_neg h1]
      by_cases h2 : c = 34 ∨ c = 92
      · rw [if_pos h2]
        have hc120 : ¬ c = 120 := by omega
        simp only [List.cons_append, List.nil_append, unqN]
        cases r with
        | nil => simp
        | cons b r => simp [hc120]
      · rw [if_neg h2]
        have hc92 : ¬ c = 92 := by omega
        simp only [List.cons_append, List.nil_append, unqN]
        simp [hc92]
theorem unqN_short {f : Nat} {r out : List Nat} (h : r.length < 2) : unqN f r out = some out := by
  cases f with
  | zero => rfl
  | succ f =>
    match r, h with
    | [], _ => rfl
    | [_], _ => rfl
def unq (s : List Nat) : Option (List Nat) := match s with | 34 :: d :: r => unqN (r.length + 2) (d :: r) [] | _ => none
theorem unq_of_quote {s : List Nat} (h : ∀ c, c ∈ s → c < 256) : unq (quoteN s) = some s := by
  have h1 := flat_len s
  obtain ⟨a, r, hr⟩ : ∃ a r, s.flatMap q1 ++ [34] = a :: r := by
    cases h : s.flatMap q1 ++ [34] with
    | nil => simp at h
    | cons a r => exact ⟨a, r, rfl⟩
  have hl : (s.flatMap q1 ++ [34]).length = (a :: r).length := by rw [hr]
  rw [List.length_append, List.length_cons] at hl
  simp only [List.length_cons, List.length_nil] at hl
  unfold quoteN
  rw [List.cons_append, hr]
  show unqN (r.length + 2) (a :: r) [] = some s
  rw [← hr, unq_quote s _ [] h (by omega)]
  rfl

/-! ### Values -/
structure ValV where
  k : Int
  n : Int
  s : List Nat
  b : Bool
deriving DecidableEq
def mayV (v : ValV) : Bool := if v.k = 1 then decide (v.s = [] ∧ v.b = false) else if v.k = 2 then decide (v.s.length ≤ 32 ∧ v.n = 0 ∧ v.b = false) else decide (v.k = 3 ∧ v.n = 0 ∧ v.s = [])
def trueN : List Nat := [116, 114, 117, 101]
def falseN : List Nat := [102, 97, 108, 115, 101]
def txtV (v : ValV) : List Nat := if v.k = 1 then fmtN v.n else if v.k = 3 then (if v.b then trueN else falseN) else quoteN v.s
def zeroV : ValV := ⟨0, 0, [], false⟩
/-- What Parse takes a text for. -/
def readV (s : List Nat) : ValV := match parI s with
  | some n => ⟨1, n, [], false⟩
  | none => match unq s with
    | some x => ⟨2, 0, x, false⟩
    | none => if s = trueN ∨ s = falseN then ⟨3, 0, [], decide (s = trueN)⟩ else zeroV
theorem read_txt {v : ValV} (hm : mayV v = true) (hb : ∀ c, c ∈ v.s → c < 256) (h1 : -9223372036854775808 ≤ v.n) (h2 : v.n < 9223372036854775808) : readV (txtV v) = v := by
  obtain ⟨k, n, s, b⟩ := v
  unfold mayV at hm
  unfold txtV readV
  simp only at hm h1 h2 hb ⊢
  by_cases hk1 : k = 1
  · subst hk1
    simp at hm
    obtain ⟨rfl, rfl⟩ := hm
    rw [if_pos rfl, parI_fmt h1 h2]
  · by_cases hk2 : k = 2
    · subst hk2
      simp at hm
      obtain ⟨_, rfl, rfl⟩ := hm
      simp only [show ¬ (2 : Int) = 1 by decide, show ¬ (2 : Int) = 3 by decide, if_false]
      rw [show quoteN s = 34 :: (s.flatMap q1 ++ [34]) by unfold quoteN; simp, parI_quote]
      have := unq_of_quote hb
      rw [show quoteN s = 34 :: (s.flatMap q1 ++ [34]) by unfold quoteN; simp] at this
      simp only [this]
    · simp [hk1, hk2] at hm
      obtain ⟨rfl, rfl, rfl⟩ := hm
      cases b <;> decide
def textV (v : ValV) : Option (List Nat) := if mayV v then some (txtV v) else none
def parseV (s : List Nat) : Option ValV := if textV (readV s) = some s then some (readV s) else none
end Go.Proofs.YtpglcebeldgeeaaDoor.val

namespace Go.Proofs.YtpglcebeldgeeaaDoor.val
set_option linter.unusedVariables false
set_option linter.unusedSimpArgs false

theorem nDigits_le : ∀ (k u : Nat), u < 10 ^ (k + 1) → Lib.nDigits u ≤ k + 1
  | 0, u, h => by rw [Lib.nDigits_small (by simpa using h)]; exact Nat.le_refl _
  | k + 1, u, h => by
    by_cases h1 : u < 10
    · rw [Lib.nDigits_small h1]; omega
    · rw [Lib.nDigits_big h1]
      have := nDigits_le k (u / 10) (by rw [Nat.pow_succ] at h; omega)
      omega
/-- number of the reference. -/
def digR (l : List Nat) : Option Nat := if l = [] ∨ 19 < l.length then none else if l.all (fun c => decide (48 ≤ c ∧ c ≤ 57)) then some (valN l 0) else none
def numR (s : List Nat) : Option Int :=
  match s with
  | 45 :: l => match digR l with | some u => if u ≤ 9223372036854775808 then some (-(u : Int)) else none | none => none
  | l => match digR l with | some u => if u < 9223372036854775808 then some u else none | none => none
theorem digR_dec {u : Nat} (h : u < 10000000000000000000) : digR (decN u) = some u := by
  unfold digR
  have h1 := decN_len u
  have h2 := nDigits_le 18 u h
  rw [if_neg (fun e => by rcases e with e | e; exact decN_ne u e; omega), if_pos, valN_dec]
  rw [List.all_eq_true]
  intro c hc
  simpa using decN_digit u c hc
theorem numR_fmt {n : Int} (h1 : -9223372036854775808 ≤ n) (h2 : n < 9223372036854775808) : numR (fmtN n) = some n := by
  unfold fmtN
  by_cases h : n < 0
  · rw [if_pos h]
    simp only [numR]
    rw [digR_dec (by omega)]
    simp only
    rw [if_pos (by omega)]
    congr 1
    omega
  · rw [if_neg h]
    have hd := decN_digit n.toNat
    have hm := digR_dec (u := n.toNat) (by omega)
    cases hl : decN n.toNat with
    | nil => exact absurd hl (decN_ne _)
    | cons c l =>
      rw [hl] at hd hm
      have := hd c (List.mem_cons_self ..)
      unfold numR
      split
      · rename_i h; simp at h; omega
      · rw [hm]
        simp only
        rw [if_pos (by omega)]
        congr 1
        omega
theorem numR_off {c : Nat} {l : List Nat} (h : ¬ (48 ≤ c ∧ c ≤ 57)) (h2 : c ≠ 45) : numR (c :: l) = none := by
  have hd : digR (c :: l) = none := by
    unfold digR
    by_cases hx : c :: l = [] ∨ 19 < (c :: l).length
    · rw [if_pos hx]
    · rw [if_neg hx, if_neg]
      simp only [List.all_cons, Bool.and_eq_true, decide_eq_true_eq]
      intro e; exact h e.1
  unfold numR
  split
  · rename_i e; simp at e; omega
  · rw [hd]
def hexR (c : Nat) : Option Nat := if 48 ≤ c ∧ c ≤ 57 then some (c - 48) else if 97 ≤ c ∧ c ≤ 102 then some (c - 87) else none
def hexR2 (a b : Nat) : Option Nat := match hexR a, hexR b with | some x, some y => some (16 * x + y) | _, _ => none
theorem hexR_D {d : Nat} (h : d < 16) : hexR (hexD d) = some d := by
  unfold hexR hexD
  by_cases h1 : d < 10
  · rw [if_pos h1, if_pos (by omega)]
    congr 1; omega
  · rw [if_neg h1, if_neg (by omega), if_pos (by omega)]
    congr 1; omega
theorem hexR2_D {c : Nat} (h : c < 256) : hexR2 (hexD (c / 16)) (hexD (c % 16)) = some c := by
  unfold hexR2
  rw [hexR_D (by omega), hexR_D (by omega)]
  simp only
  congr 1; omega
/-- word of the reference, from a place on. -/
def wrdN : Nat → List Nat → List Nat → List Nat
  | 0, _, out => out
  | f + 1, r, out =>
    match r with
    | c :: d :: r => if c = 92 ∧ r ≠ [] then
        (match r with
          | a :: b :: e :: r' => if d = 120 then (match hexR2 a b with | some n => wrdN f (e :: r') (out ++ [n]) | none => wrdN f (a :: b :: e :: r') (out ++ [d])) else wrdN f (a :: b :: e :: r') (out ++ [d])
          | r => wrdN f r (out ++ [d]))
      else wrdN f (d :: r) (out ++ [c])
    | _ => out
theorem wrd_quote : ∀ (s : List Nat) (f : Nat) (out : List Nat), (∀ c, c ∈ s → c < 256) → s.length < f → wrdN f (s.flatMap q1 ++ [34]) out = out ++ s
  | [], f + 1, out, _, _ => by simp [wrdN]
  | c :: s, f + 1, out, h, hf => by
    have hc := h c (List.mem_cons_self ..)
    have ih := wrd_quote s f (out ++ [c]) (fun d hd => h d (List.mem_cons_of_mem _ hd)) (by simp at hf; omega)
    obtain ⟨a, r, hr⟩ : ∃ a r, s.flatMap q1 ++ [34] = a :: r := by
      cases h : s.flatMap q1 ++ [34] with
      | nil => simp at h
      | cons a r => exact ⟨a, r, rfl⟩
    rw [List.flatMap_cons, List.append_assoc]
    rw [hr] at ih ⊢
    rw [show out ++ c :: s = (out ++ [c]) ++ s by simp, ← ih]
    unfold q1
    by_cases h1 : c < 32 ∨ 126 < c
    · rw [if_pos h1]
      simp only [List.cons_append, List.nil_append, wrdN]
      simp [hexR2_D hc]
    · rw [if_neg h1]
      by_cases h2 : c = 34 ∨ c = 92
      · rw [if_pos h2]
        have hc120 : ¬ c = 120 := by omega
        simp only [List.cons_append, List.nil_append, wrdN]
        match r with
        | [] => simp
        | [b] => simp
        | b :: e :: r' => simp [hc120]
      · rw [if_neg h2]
        have hc92 : ¬ c = 92 := by omega
        simp only [List.cons_append, List.nil_append, wrdN]
        simp [hc92]
theorem wrdN_short {f : Nat} {r out : List Nat} (h : r.length < 2) : wrdN f r out = out := by
  cases f with
  | zero => rfl
  | succ f =>
    match r, h with
    | [], _ => rfl
    | [_], _ => rfl
def wrd (s : List Nat) : List Nat := wrdN (s.length) (s.drop 1) []
theorem wrd_of_quote {s : List Nat} (h : ∀ c, c ∈ s → c < 256) : wrd (quoteN s) = s := by
  have h1 := flat_len s
  unfold wrd quoteN
  rw [List.cons_append, List.drop_one, List.tail_cons, wrd_quote s _ [] h (by simp only [List.length_cons, List.length_append, List.length_nil]; omega)]
  rfl
def readR (s : List Nat) : ValV := match numR s with
  | some n => ⟨1, n, [], false⟩
  | none => if s = trueN ∨ s = falseN then ⟨3, 0, [], decide (s = trueN)⟩ else (match s with | 34 :: _ :: _ => ⟨2, 0, wrd s, false⟩ | _ => zeroV)
theorem readR_txt {v : ValV} (hm : mayV v = true) (hb : ∀ c, c ∈ v.s → c < 256) (h1 : -9223372036854775808 ≤ v.n) (h2 : v.n < 9223372036854775808) : readR (txtV v) = v := by
  obtain ⟨k, n, s, b⟩ := v
  unfold mayV at hm
  unfold txtV readR
  simp only at hm h1 h2 hb ⊢
  by_cases hk1 : k = 1
  · subst hk1
    simp at hm
    obtain ⟨rfl, rfl⟩ := hm
    rw [if_pos rfl, numR_fmt h1 h2]
  · by_cases hk2 : k = 2
    · subst hk2
      simp at hm
      obtain ⟨_, rfl, rfl⟩ := hm
      simp only [show ¬ (2 : Int) = 1 by decide, show ¬ (2 : Int) = 3 by decide, if_false]
      have hw := wrd_of_quote hb
      obtain ⟨a, r, hr⟩ : ∃ a r, s.flatMap q1 ++ [34] = a :: r := by
        cases h : s.flatMap q1 ++ [34] with
        | nil => simp at h
        | cons a r => exact ⟨a, r, rfl⟩
      have hq : quoteN s = 34 :: a :: r := by unfold quoteN; rw [List.cons_append, hr]
      rw [hq] at hw ⊢
      rw [numR_off (by omega) (by omega)]
      simp [trueN, falseN, hw]
    · simp [hk1, hk2] at hm
      obtain ⟨rfl, rfl, rfl⟩ := hm
      cases b <;> decide
/-! ### What is read is a value's -/
theorem parI_range {s : List Nat} {n : Int} (h : parI s = some n) : -9223372036854775808 ≤ n ∧ n < 9223372036854775808 := by
  unfold parI at h
  split at h <;> split at h <;> first | (cases h; done) | (split at h <;> first | (cases h; done) | (cases h; omega))
theorem numR_range {s : List Nat} {n : Int} (h : numR s = some n) : -9223372036854775808 ≤ n ∧ n < 9223372036854775808 := by
  unfold numR at h
  split at h <;> split at h <;> first | (cases h; done) | (split at h <;> first | (cases h; done) | (cases h; omega))
theorem hexV_lt {a x : Nat} (ha : hexV a = some x) : x < 16 := by
  unfold hexV at ha
  split at ha
  · cases ha; omega
  · split at ha
    · cases ha; omega
    · split at ha
      · cases ha; omega
      · cases ha
theorem hex2_lt {a b n : Nat} (h : hex2 a b = some n) : n < 256 := by
  unfold hex2 at h
  cases ha : hexV a with
  | none => rw [ha] at h; cases h
  | some x =>
    cases hb : hexV b with
    | none => rw [ha, hb] at h; cases h
    | some y =>
      rw [ha, hb] at h
      cases h
      have := hexV_lt ha
      have := hexV_lt hb
      omega
theorem hexR_V {a x : Nat} (h : hexR a = some x) : hexV a = some x := by
  unfold hexR at h
  unfold hexV
  split at h
  · rename_i h1; rw [if_pos h1]; exact h
  · rename_i h1
    rw [if_neg h1]
    split at h
    · rename_i h2; rw [if_pos h2]; exact h
    · cases h
theorem hexR2_lt {a b n : Nat} (h : hexR2 a b = some n) : n < 256 := by
  unfold hexR2 at h
  cases ha : hexR a with
  | none => rw [ha] at h; cases h
  | some x =>
    cases hb : hexR b with
    | none => rw [ha, hb] at h; cases h
    | some y =>
      rw [ha, hb] at h
      cases h
      have := hexV_lt (hexR_V ha)
      have := hexV_lt (hexR_V hb)
      omega
theorem snoc_bytes {out : List Nat} {n : Nat} (h : ∀ c, c ∈ out → c < 256) (hn : n < 256) : ∀ c, c ∈ out ++ [n] → c < 256 := fun c hc => by
  rcases List.mem_append.1 hc with hc | hc
  · exact h c hc
  · simp at hc; omega
theorem unqN_bytes : ∀ (f : Nat) (r out o : List Nat), (∀ c, c ∈ r → c < 256) → (∀ c, c ∈ out → c < 256) → unqN f r out = some o → ∀ c, c ∈ o → c < 256
  | 0, r, out, o, _, h, e => by cases e; exact h
  | f + 1, r, out, o, hr, h, e => by
    match r, hr, e with
    | [], _, e => cases e; exact h
    | [_], _, e => cases e; exact h
    | c :: d :: r, hr, e =>
      have hc := hr c (by simp)
      have hd := hr d (by simp)
      simp only [unqN] at e
      by_cases h1 : c = 92
      · rw [if_pos h1] at e
        match r, hr, e with
        | [], hr, e => exact unqN_bytes f _ _ o (fun x hx => hr x (by simp at hx)) (snoc_bytes h hd) e
        | [a], hr, e => exact unqN_bytes f _ _ o (fun x hx => hr x (by simp at hx; simp [hx])) (snoc_bytes h hd) e
        | a :: b :: r', hr, e =>
          simp only at e
          by_cases h2 : d = 120
          · rw [if_pos h2] at e
            cases hx : hex2 a b with
            | none => rw [hx] at e; cases e
            | some n =>
              rw [hx] at e
              exact unqN_bytes f _ _ o (fun x hx => hr x (by simp [hx])) (snoc_bytes h (hex2_lt hx)) e
          · rw [if_neg h2] at e
            exact unqN_bytes f _ _ o (fun x hx => hr x (List.mem_cons_of_mem _ (List.mem_cons_of_mem _ hx))) (snoc_bytes h hd) e
      · rw [if_neg h1] at e
        exact unqN_bytes f _ _ o (fun x hx => hr x (List.mem_cons_of_mem _ hx)) (snoc_bytes h hc) e
theorem wrdN_bytes : ∀ (f : Nat) (r out : List Nat), (∀ c, c ∈ r → c < 256) → (∀ c, c ∈ out → c < 256) → ∀ c, c ∈ wrdN f r out → c < 256
  | 0, r, out, _, h => h
  | f + 1, r, out, hr, h => by
    match r, hr with
    | [], _ => exact h
    | [_], _ => exact h
    | c :: d :: r, hr =>
      have hc := hr c (by simp)
      have hd := hr d (by simp)
      simp only [wrdN]
      by_cases h1 : c = 92 ∧ r ≠ []
      · rw [if_pos h1]
        match r, hr with
        | [], hr => exact wrdN_bytes f _ _ (fun x hx => hr x (by simp at hx)) (snoc_bytes h hd)
        | [a], hr => exact wrdN_bytes f _ _ (fun x hx => hr x (List.mem_cons_of_mem _ (List.mem_cons_of_mem _ hx))) (snoc_bytes h hd)
        | [a, b], hr => exact wrdN_bytes f _ _ (fun x hx => hr x (List.mem_cons_of_mem _ (List.mem_cons_of_mem _ hx))) (snoc_bytes h hd)
        | a :: b :: e :: r', hr =>
          simp only
          by_cases h2 : d = 120
          · rw [if_pos h2]
            cases hx : hexR2 a b with
            | none => exact wrdN_bytes f _ _ (fun x hx => hr x (List.mem_cons_of_mem _ (List.mem_cons_of_mem _ hx))) (snoc_bytes h hd)
            | some n => exact wrdN_bytes f _ _ (fun x hx => hr x (List.mem_cons_of_mem _ (List.mem_cons_of_mem _ (List.mem_cons_of_mem _ (List.mem_cons_of_mem _ hx))))) (snoc_bytes h (hexR2_lt hx))
          · rw [if_neg h2]
            exact wrdN_bytes f _ _ (fun x hx => hr x (List.mem_cons_of_mem _ (List.mem_cons_of_mem _ hx))) (snoc_bytes h hd)
      · rw [if_neg h1]
        exact wrdN_bytes f _ _ (fun x hx => hr x (List.mem_cons_of_mem _ hx)) (snoc_bytes h hc)
def okV2 (v : ValV) : Prop := (∀ c, c ∈ v.s → c < 256) ∧ -9223372036854775808 ≤ v.n ∧ v.n < 9223372036854775808
theorem readV_ok {s : List Nat} (hs : ∀ c, c ∈ s → c < 256) : okV2 (readV s) := by
  unfold readV
  cases h1 : parI s with
  | some n => exact ⟨fun c hc => (by cases hc), (parI_range h1).1, (parI_range h1).2⟩
  | none =>
    cases h2 : unq s with
    | some x =>
      refine ⟨?_, by show (-9223372036854775808 : Int) ≤ 0; decide, by show (0 : Int) < 9223372036854775808; decide⟩
      unfold unq at h2
      split at h2
      · rename_i d r
        exact unqN_bytes _ _ _ _ (fun c hc => hs c (List.mem_cons_of_mem _ hc)) (fun c hc => by cases hc) h2
      · cases h2
    | none =>
      simp only
      split
      · exact ⟨fun c hc => (by cases hc), (by show (-9223372036854775808 : Int) ≤ 0; decide), (by show (0 : Int) < 9223372036854775808; decide)⟩
      · exact ⟨fun c hc => (by cases hc), (by show (-9223372036854775808 : Int) ≤ 0; decide), (by show (0 : Int) < 9223372036854775808; decide)⟩
theorem readR_ok {s : List Nat} (hs : ∀ c, c ∈ s → c < 256) : okV2 (readR s) := by
  unfold readR
  cases h1 : numR s with
  | some n => exact ⟨fun c hc => (by cases hc), (numR_range h1).1, (numR_range h1).2⟩
  | none =>
    simp only
    split
    · exact ⟨fun c hc => (by cases hc), (by show (-9223372036854775808 : Int) ≤ 0; decide), (by show (0 : Int) < 9223372036854775808; decide)⟩
    · split
      · refine ⟨?_, by show (-9223372036854775808 : Int) ≤ 0; decide, by show (0 : Int) < 9223372036854775808; decide⟩
        exact wrdN_bytes _ _ _ (fun c hc => hs c (List.mem_of_mem_drop hc)) (fun c hc => by cases hc)
      · exact ⟨fun c hc => (by cases hc), (by show (-9223372036854775808 : Int) ≤ 0; decide), (by show (0 : Int) < 9223372036854775808; decide)⟩
theorem textV_some {v : ValV} {t : List Nat} (h : textV v = some t) : mayV v = true ∧ txtV v = t := by
  unfold textV at h
  split at h
  · rename_i hm; cases h; exact ⟨hm, rfl⟩
  · cases h
def parseR (s : List Nat) : Option ValV := if textV (readR s) = some s then some (readR s) else none
theorem parse_alike {s : List Nat} (hs : ∀ c, c ∈ s → c < 256) : parseV s = parseR s := by
  unfold parseV parseR
  obtain ⟨a1, a2, a3⟩ := readV_ok hs
  obtain ⟨b1, b2, b3⟩ := readR_ok hs
  by_cases h : textV (readV s) = some s
  · obtain ⟨hm, ht⟩ := textV_some h
    have e := readR_txt hm a1 a2 a3
    rw [ht] at e
    rw [e]
  · rw [if_neg h, if_neg]
    intro h2
    obtain ⟨hm, ht⟩ := textV_some h2
    have e := read_txt hm b1 b2 b3
    rw [ht] at e
    rw [e] at h
    exact h h2
/-- There and back. -/
theorem parse_text {v : ValV} (hv : okV2 v) {t : List Nat} (h : textV v = some t) : parseV t = some v := by
  obtain ⟨hm, ht⟩ := textV_some h
  have e := read_txt hm hv.1 hv.2.1 hv.2.2
  rw [ht] at e
  unfold parseV
  rw [e, if_pos h]
end Go.Proofs.YtpglcebeldgeeaaDoor.val

namespace Go.Proofs.YtpglcebeldgeeaaDoor.val
open Go Go.Am Go.Proofs.YtpglcebeldgeeaaDoor.laid
set_option linter.unusedVariables false
set_option linter.unusedSimpArgs false

noncomputable abbrev A0 : Am.Ask := { eqs := laid.A0.eqs, exts := laid.A0.exts, globs := laid.A0.globs, prims := [(10, boolQ true)] }
noncomputable abbrev C0 : Am.Cx := Am.mkCx Tryd.prog A0
theorem ex0 (f : Nat) (h1 : (f == 65) = false) (h2 : (f == 49) = false) (h3 : (f == 93) = false) : C0.exts.get f = none := by
  have h1 : ¬ f = 65 := by simpa using h1
  have h2 : ¬ f = 49 := by simpa using h2
  have h3 : ¬ f = 93 := by simpa using h3
  have e : C0.exts = ((((.leaf : T Xf).set 65 .cmpstr).set 49 .ident).set 93 .idxByte) ∨ C0.exts = ((((.leaf : T Xf).set 93 .idxByte).set 49 .ident).set 65 .cmpstr) := by
    first | exact .inl (by kernel_rfl) | exact .inr (by kernel_rfl)
  rcases e with e | e <;> rw [e] <;> simp [h1, h2, h3, get_leaf]
theorem ex63 : C0.exts.get 49 = some .ident := by kernel_rfl
theorem exCmp : C0.exts.get 65 = some .cmpstr := by kernel_rfl
theorem exIxb : C0.exts.get 93 = some .idxByte := by kernel_rfl
theorem pr0 (f : Nat) (h : (f == 10) = false) : C0.prims.get f = none := by
  have h1 : ¬ f = 10 := by simpa using h
  show ((T.leaf : T (List AV → AS → Option (AV × AS))).set 10 (boolQ true)).get f = none
  rw [get_set_ne _ _ h1]; exact get_leaf f
theorem dWakes {S : AS} {Q : AV → AS → Prop} : CallW C0 10 [] S Q = Q (.bool true) S := callW_prim (q := boolQ true) (by kernel_rfl) rfl rfl rfl
theorem pu0 (f : Nat) : C0.pures.get f = none := get_leaf f
@[simp] theorem sT9 : strT C0 9 = true := by kernel_rfl
@[simp] theorem bE56 : bytE C0 43 = some 5 := by kernel_rfl
@[simp] theorem und9 : und C0 9 = some .string := by kernel_rfl

@[simp] theorem ag23 : aggOf C0 36 = some true := by kernel_rfl
@[simp] theorem sz23 : szOf C0 36 = some 4 := by kernel_rfl
@[simp] theorem ze23 : zeroOf C0 36 = some (.agg [.int .i64 0, .int .i64 0, .str [], .bool false]) := by kernel_rfl
theorem fn10 : C0.fns.get 18 = some Tryd.f18 := by kernel_rfl
theorem ok10 : codeOk C0 Tryd.f18.ntmps (Tryd.f18.body.getD .skip) = true := by kernel_rfl
@[simp] theorem ze2 : zeroOf C0 2 = some (.int .i64 0) := by kernel_rfl
@[simp] theorem conc2 : conc C0 2 = true := by kernel_rfl
@[simp] theorem ze9 : zeroOf C0 9 = some (.str []) := by kernel_rfl
@[simp] theorem conc9 : conc C0 9 = true := by kernel_rfl
@[simp] theorem ze4 : zeroOf C0 4 = some (.bool false) := by kernel_rfl
@[simp] theorem conc4 : conc C0 4 = true := by kernel_rfl
@[simp] theorem fa23_0 : fieldAt C0 36 0 = some 0 := by kernel_rfl
@[simp] theorem ag3 : aggOf C0 3 = some false := by kernel_rfl
@[simp] theorem sz3 : szOf C0 3 = some 1 := by kernel_rfl
@[simp] theorem fa23_2 : fieldAt C0 36 2 = some 2 := by kernel_rfl
@[simp] theorem ag9 : aggOf C0 9 = some false := by kernel_rfl
@[simp] theorem sz9 : szOf C0 9 = some 1 := by kernel_rfl
@[simp] theorem fa23_3 : fieldAt C0 36 3 = some 3 := by kernel_rfl
@[simp] theorem ag4 : aggOf C0 4 = some false := by kernel_rfl
@[simp] theorem sz4 : szOf C0 4 = some 1 := by kernel_rfl
@[simp] theorem fa23_1 : fieldAt C0 36 1 = some 1 := by kernel_rfl
@[simp] theorem ag2 : aggOf C0 2 = some false := by kernel_rfl
@[simp] theorem sz2 : szOf C0 2 = some 1 := by kernel_rfl
theorem fn14 : C0.fns.get 13 = some Tryd.f13 := by kernel_rfl
theorem ok14 : codeOk C0 Tryd.f13.ntmps (Tryd.f13.body.getD .skip) = true := by kernel_rfl
@[simp] theorem cv2_55 : convT C0 2 93 = some .u64 := by kernel_rfl
@[simp] theorem st56 : slT C0 43 = some (5, 1, 1) := by kernel_rfl
@[simp] theorem ag56 : aggOf C0 43 = some false := by kernel_rfl
@[simp] theorem un56 : und C0 43 = some (.slice 5) := by kernel_rfl
theorem fn16 : C0.fns.get 20 = some Tryd.f20 := by kernel_rfl
theorem ok16 : codeOk C0 Tryd.f20.ntmps (Tryd.f20.body.getD .skip) = true := by kernel_rfl
theorem fn18 : C0.fns.get 23 = some Tryd.f23 := by kernel_rfl
theorem ok18 : codeOk C0 Tryd.f23.ntmps (Tryd.f23.body.getD .skip) = true := by kernel_rfl
theorem fn19 : C0.fns.get 14 = some Tryd.f14 := by kernel_rfl
theorem ok19 : codeOk C0 Tryd.f14.ntmps (Tryd.f14.body.getD .skip) = true := by kernel_rfl
theorem fn20 : C0.fns.get 38 = some Tryd.f38 := by kernel_rfl
theorem ok20 : codeOk C0 Tryd.f38.ntmps (Tryd.f38.body.getD .skip) = true := by kernel_rfl
theorem fn21 : C0.fns.get 31 = some Tryd.f31 := by kernel_rfl
theorem ok21 : codeOk C0 Tryd.f31.ntmps (Tryd.f31.body.getD .skip) = true := by kernel_rfl
theorem fn26 : C0.fns.get 32 = some Tryd.f32 := by kernel_rfl
theorem ok26 : codeOk C0 Tryd.f32.ntmps (Tryd.f32.body.getD .skip) = true := by kernel_rfl
theorem fn27 : C0.fns.get 33 = some Tryd.f33 := by kernel_rfl
theorem ok27 : codeOk C0 Tryd.f33.ntmps (Tryd.f33.body.getD .skip) = true := by kernel_rfl
theorem fn28 : C0.fns.get 34 = some Tryd.f34 := by kernel_rfl
theorem ok28 : codeOk C0 Tryd.f34.ntmps (Tryd.f34.body.getD .skip) = true := by kernel_rfl
@[simp] theorem sz69 : szOf C0 45 = some 2 := by kernel_rfl
@[simp] theorem ze69 : zeroOf C0 45 = some (.agg [.nilp, .nils]) := by kernel_rfl
@[simp] theorem cv55_5 : convT C0 93 5 = some .u8 := by kernel_rfl
theorem fn30 : C0.fns.get 39 = some Tryd.f39 := by kernel_rfl
theorem ok30 : codeOk C0 Tryd.f39.ntmps (Tryd.f39.body.getD .skip) = true := by kernel_rfl
theorem fn31 : C0.fns.get 40 = some Tryd.f40 := by kernel_rfl
theorem ok31 : codeOk C0 Tryd.f40.ntmps (Tryd.f40.body.getD .skip) = true := by kernel_rfl
@[simp] theorem cv5_55 : convT C0 5 93 = some .u64 := by kernel_rfl
@[simp] theorem cv55_2 : convT C0 93 2 = some .i64 := by kernel_rfl
@[simp] theorem cv3_5 : convT C0 3 5 = some .u8 := by kernel_rfl
theorem fn37 : C0.fns.get 45 = some Tryd.f45 := by kernel_rfl
theorem ok37 : codeOk C0 Tryd.f45.ntmps (Tryd.f45.body.getD .skip) = true := by kernel_rfl
@[simp] theorem sz81 : szOf C0 108 = some 24 := by kernel_rfl
@[simp] theorem ze81 : zeroOf C0 108 = some (.agg [.int .u8 0, .int .u8 0, .int .u8 0, .int .u8 0, .int .u8 0, .int .u8 0, .int .u8 0, .int .u8 0, .int .u8 0, .int .u8 0, .int .u8 0, .int .u8 0, .int .u8 0, .int .u8 0, .int .u8 0, .int .u8 0, .int .u8 0, .int .u8 0, .int .u8 0, .int .u8 0, .int .u8 0, .int .u8 0, .int .u8 0, .int .u8 0]) := by kernel_rfl
@[simp] theorem un81 : und C0 108 = some (.array 24 5) := by kernel_rfl
@[simp] theorem sz5 : szOf C0 5 = some 1 := by kernel_rfl
theorem fn38 : C0.fns.get 46 = some Tryd.f46 := by kernel_rfl
theorem ok38 : codeOk C0 Tryd.f46.ntmps (Tryd.f46.body.getD .skip) = true := by kernel_rfl
theorem fn39 : C0.fns.get 47 = some Tryd.f47 := by kernel_rfl
theorem ok39 : codeOk C0 Tryd.f47.ntmps (Tryd.f47.body.getD .skip) = true := by kernel_rfl
theorem fn40 : C0.fns.get 15 = some Tryd.f15 := by kernel_rfl
theorem ok40 : codeOk C0 Tryd.f15.ntmps (Tryd.f15.body.getD .skip) = true := by kernel_rfl
@[simp] theorem fa69_1 : fieldAt C0 45 1 = some 1 := by kernel_rfl
@[simp] theorem sz56 : szOf C0 43 = some 1 := by kernel_rfl
@[simp] theorem un9 : und C0 9 = some .string := by kernel_rfl
theorem fn41 : C0.fns.get 48 = some Tryd.f48 := by kernel_rfl
theorem ok41 : codeOk C0 Tryd.f48.ntmps (Tryd.f48.body.getD .skip) = true := by kernel_rfl
theorem fn42 : C0.fns.get 16 = some Tryd.f16 := by kernel_rfl
theorem ok42 : codeOk C0 Tryd.f16.ntmps (Tryd.f16.body.getD .skip) = true := by kernel_rfl
theorem fn43 : C0.fns.get 51 = some Tryd.f51 := by kernel_rfl
theorem ok43 : codeOk C0 Tryd.f51.ntmps (Tryd.f51.body.getD .skip) = true := by kernel_rfl
@[simp] theorem conc87 : conc C0 112 = true := by kernel_rfl
@[simp] theorem cv3_73 : convT C0 3 86 = some .u64 := by kernel_rfl
theorem fn44 : C0.fns.get 52 = some Tryd.f52 := by kernel_rfl
theorem ok44 : codeOk C0 Tryd.f52.ntmps (Tryd.f52.body.getD .skip) = true := by kernel_rfl
@[simp] theorem conc88 : conc C0 113 = true := by kernel_rfl
theorem fn45 : C0.fns.get 53 = some Tryd.f53 := by kernel_rfl
theorem ok45 : codeOk C0 Tryd.f53.ntmps (Tryd.f53.body.getD .skip) = true := by kernel_rfl
@[simp] theorem cv5_3 : convT C0 5 3 = some .i64 := by kernel_rfl
theorem fn48 : C0.fns.get 66 = some Tryd.f66 := by kernel_rfl
theorem ok48 : codeOk C0 Tryd.f66.ntmps (Tryd.f66.body.getD .skip) = true := by kernel_rfl
theorem fn49 : C0.fns.get 67 = some Tryd.f67 := by kernel_rfl
theorem ok49 : codeOk C0 Tryd.f67.ntmps (Tryd.f67.body.getD .skip) = true := by kernel_rfl
@[simp] theorem un92 : und C0 125 = some (.array 20 93) := by kernel_rfl
@[simp] theorem sz55 : szOf C0 93 = some 1 := by kernel_rfl
@[simp] theorem ag55 : aggOf C0 93 = some false := by kernel_rfl
theorem fn50 : C0.fns.get 68 = some Tryd.f68 := by kernel_rfl
theorem ok50 : codeOk C0 Tryd.f68.ntmps (Tryd.f68.body.getD .skip) = true := by kernel_rfl
@[simp] theorem cv55_93 : convT C0 93 105 = some .u32 := by kernel_rfl
@[simp] theorem cv93_5 : convT C0 105 5 = some .u8 := by kernel_rfl
theorem fn52 : C0.fns.get 35 = some Tryd.f35 := by kernel_rfl
theorem ok52 : codeOk C0 Tryd.f35.ntmps (Tryd.f35.body.getD .skip) = true := by kernel_rfl
@[simp] theorem fa69_0 : fieldAt C0 45 0 = some 0 := by kernel_rfl
@[simp] theorem ag67 : aggOf C0 42 = some false := by kernel_rfl
@[simp] theorem sz67 : szOf C0 42 = some 1 := by kernel_rfl
@[simp] theorem pt67 : ptT C0 42 = true := by kernel_rfl
theorem fn53 : C0.fns.get 70 = some Tryd.f70 := by kernel_rfl
theorem ok53 : codeOk C0 Tryd.f70.ntmps (Tryd.f70.body.getD .skip) = true := by kernel_rfl
@[simp] theorem cv3_55 : convT C0 3 93 = some .u64 := by kernel_rfl
@[simp] theorem ag5 : aggOf C0 5 = some false := by kernel_rfl
theorem fn54 : C0.fns.get 71 = some Tryd.f71 := by kernel_rfl
theorem ok54 : codeOk C0 Tryd.f71.ntmps (Tryd.f71.body.getD .skip) = true := by kernel_rfl
@[simp] theorem ag58 : aggOf C0 49 = some false := by kernel_rfl
@[simp] theorem sz58 : szOf C0 49 = some 1 := by kernel_rfl
theorem fn55 : C0.fns.get 72 = some Tryd.f72 := by kernel_rfl
theorem ok55 : codeOk C0 Tryd.f72.ntmps (Tryd.f72.body.getD .skip) = true := by kernel_rfl
theorem fn58 : C0.fns.get 84 = some Tryd.f84 := by kernel_rfl
theorem ok58 : codeOk C0 Tryd.f84.ntmps (Tryd.f84.body.getD .skip) = true := by kernel_rfl
theorem fn59 : C0.fns.get 64 = some Tryd.f64 := by kernel_rfl
theorem ok59 : codeOk C0 Tryd.f64.ntmps (Tryd.f64.body.getD .skip) = true := by kernel_rfl
theorem fn60 : C0.fns.get 85 = some Tryd.f85 := by kernel_rfl
theorem ok60 : codeOk C0 Tryd.f85.ntmps (Tryd.f85.body.getD .skip) = true := by kernel_rfl
theorem fn64 : C0.fns.get 88 = some Tryd.f88 := by kernel_rfl
theorem ok64 : codeOk C0 Tryd.f88.ntmps (Tryd.f88.body.getD .skip) = true := by kernel_rfl
theorem fn66 : C0.fns.get 90 = some Tryd.f90 := by kernel_rfl
theorem ok66 : codeOk C0 Tryd.f90.ntmps (Tryd.f90.body.getD .skip) = true := by kernel_rfl
theorem sub1 {S : AS} {o : AObj} : Sub S ⟨S.h.set S.next o, S.next + 1⟩ := (Sub.refl S).set _ _ (Nat.le_refl _) _ (Nat.le_succ _)
theorem sub1s {S : AS} {o o' : AObj} : Sub S ⟨(S.h.set S.next o).set S.next o', S.next + 1⟩ := sub1.set _ _ (Nat.le_refl _) _ (Nat.le_refl _)
theorem sub2 {S : AS} {o o' : AObj} : Sub S ⟨(S.h.set S.next o).set (S.next + 1) o', S.next + 2⟩ := sub1.set _ _ (Nat.le_succ _) _ (Nat.le_succ _)
end Go.Proofs.YtpglcebeldgeeaaDoor.val

namespace Go.Proofs.YtpglcebeldgeeaaDoor.val
open Go Go.Am Go.Proofs.YtpglcebeldgeeaaDoor.laid
set_option linter.unusedVariables false
set_option linter.unusedSimpArgs false

def encV (v : ValV) : List AV := [.int .i64 v.k, .int .i64 v.n, .str v.s, .bool v.b]
theorem bld23i (n : Int) : buildA C0 36 [(0, .int .i64 1), (1, .int .i64 n)] = some (.agg [.int .i64 1, .int .i64 n, .str [], .bool false]) := by kernel_rfl
theorem bld23s (s : List Nat) : buildA C0 36 [(0, .int .i64 2), (2, .str s)] = some (.agg [.int .i64 2, .int .i64 0, .str s, .bool false]) := by kernel_rfl
theorem bld23b (b : Bool) : buildA C0 36 [(0, .int .i64 3), (3, .bool b)] = some (.agg [.int .i64 3, .int .i64 0, .str [], .bool b]) := by kernel_rfl
theorem bld23z : buildA C0 36 [] = some (.agg [.int .i64 0, .int .i64 0, .str [], .bool false]) := by kernel_rfl
def andS (a r : Option Bool) : Option Bool := match a with | some true => r | x => x
theorem eqv23 (c : Bool) (v w : ValV) : eqV C0 36 c (.agg (encV v)) (.agg (encV w)) = some (decide (v = w)) := by
  obtain ⟨k, n, s, b⟩ := v
  obtain ⟨k', n', s', b'⟩ := w
  have e : eqV C0 36 c (.agg [.int .i64 k, .int .i64 n, .str s, .bool b]) (.agg [.int .i64 k', .int .i64 n', .str s', .bool b']) =
      andS (some (eqI k k')) (andS (some (eqI n n')) (andS (some (eqS s s')) (andS (some (b == b')) (some true)))) := by kernel_rfl
  simp only [encV]
  rw [e, eqI_eq, eqI_eq]
  simp only [eqS_eq, ValV.mk.injEq]
  unfold andS
  by_cases h1 : k = k' <;> by_cases h2 : n = n' <;> by_cases h3 : s = s' <;> cases b <;> cases b' <;> simp [h1, h2, h3]
theorem eq23 (c : Bool) (v w : ValV) : binV C0 .eql 36 c (.agg (encV v)) (.agg (encV w)) = some (.bool (decide (v = w))) := by
  have h := eqv23 c v w
  simp only [encV] at h ⊢
  unfold binV
  simp [h, oddA]
theorem ne23 (c : Bool) (v w : ValV) : binV C0 .neq 36 c (.agg (encV v)) (.agg (encV w)) = some (.bool (!decide (v = w))) := by
  have h := eqv23 c v w
  simp only [encV] at h ⊢
  unfold binV
  simp [h, oddA]
theorem number18 {S : AS} (n : Int) : CallW C0 23 [.int .i64 n] S fun r T => r = .agg (encV ⟨1, n, [], false⟩) ∧ Sub S T := by
  refine enterW (pu0 _) (pr0 _ rfl) fn18 rfl ok18 (by simp) fun F hn hs => ?_
  have s0 := hs 0
  clear hs
  simp only [List.getElem?_cons_zero, Option.getD_some] at s0
  simp [s0, bld23i, encV, sub1s]
theorem word19 {S : AS} (s : List Nat) : CallW C0 14 [.str s] S fun r T => r = .agg (encV ⟨2, 0, s, false⟩) ∧ Sub S T := by
  refine enterW (pu0 _) (pr0 _ rfl) fn19 rfl ok19 (by simp) fun F hn hs => ?_
  have s0 := hs 0
  clear hs
  simp only [List.getElem?_cons_zero, Option.getD_some] at s0
  simp [s0, bld23s, encV, sub1s]
theorem truth20 {S : AS} (b : Bool) : CallW C0 38 [.bool b] S fun r T => r = .agg (encV ⟨3, 0, [], b⟩) ∧ Sub S T := by
  refine enterW (pu0 _) (pr0 _ rfl) fn20 rfl ok20 (by simp) fun F hn hs => ?_
  have s0 := hs 0
  clear hs
  simp only [List.getElem?_cons_zero, Option.getD_some] at s0
  simp [s0, bld23b, encV, sub1s]
def hasV (v : ValV) : AV := if v.k = 1 then .iface 2 (.int .i64 v.n) else if v.k = 2 then .iface 9 (.str v.s) else if v.k = 3 then .iface 4 (.bool v.b) else .niface
theorem has21 {S : AS} (v : ValV) : CallW C0 31 [.agg (encV v)] S fun r T => r = hasV v ∧ Sub S T := by
  refine enterW (pu0 _) (pr0 _ rfl) fn21 rfl ok21 (by simp) fun F hn hs => ?_
  have s0 := hs 0
  clear hs
  simp only [List.getElem?_cons_zero, Option.getD_some, encV] at s0
  unfold hasV
  by_cases h1 : v.k = 1
  · simp [s0, h1, sub1]
  by_cases h2 : v.k = 2
  · simp [s0, h2, sub1]
  by_cases h3 : v.k = 3
  · simp [s0, h3, sub1]
  simp [s0, h1, h2, h3, sub1]
theorem nt10 : Tryd.f18.ntmps = 34 := by kernel_rfl
theorem may10 {S : AS} (v : ValV) : CallW C0 18 [.agg (encV v)] S fun r T => r = .bool (mayV v) ∧ Sub S T := by
  have hA : Sub S ⟨S.h.set S.next (.row (encV v) 0 0 false 36), S.next + 1⟩ := sub1
  obtain ⟨r, T, ⟨rfl, hT⟩, e1⟩ := (has21 (S := ⟨S.h.set S.next (.row (encV v) 0 0 false 36), S.next + 1⟩) v).ex
  have g1 : T.h.get S.next = some (.row (encV v) 0 0 false 36) := by rw [hT.h _ (Nat.lt_succ_self _)]; exact get_set_same _ _ _
  obtain ⟨r, T1, ⟨rfl, hT1⟩, e2⟩ := (number18 (S := T) v.n).ex
  obtain ⟨r, T2, ⟨rfl, hT2⟩, e3⟩ := (word19 (S := T) v.s).ex
  obtain ⟨r, T3, ⟨rfl, hT3⟩, e4⟩ := (truth20 (S := T) v.b).ex
  have hlt : S.next < T.next := hT.next
  have ga := (hT1.h _ hlt).trans g1
  have gb := (hT2.h _ hlt).trans g1
  have gc := (hT3.h _ hlt).trans g1
  have q1 := eq23 false v ⟨1, v.n, [], false⟩
  have q2 := eq23 false v ⟨2, 0, v.s, false⟩
  have q3 := eq23 false v ⟨3, 0, [], v.b⟩
  obtain ⟨k, n, s, b⟩ := v
  simp only [encV] at hA e1 g1 ga gb gc e2 e3 e4 q1 q2 q3
  refine enterW (pu0 _) (pr0 _ rfl) fn10 rfl ok10 (by simp) fun F hn hs => ?_
  rw [nt10] at hn
  have s0 := hs 0
  clear hs
  simp only [List.getElem?_cons_zero, Option.getD_some, encV] at s0
  unfold hasV at e1
  unfold mayV
  have h01 := (hA.trans hT).trans hT1
  have h02 := (hA.trans hT).trans hT2
  have h03 := (hA.trans hT).trans hT3
  by_cases h1 : k = 1
  · simp only [h1, if_pos] at e1 q1 g1 ga s0 ⊢
    simp [s0, e1, ex0, hn]
    refine draws [.r 0 1, .p, .e [], .p, .p] (n := 34) (by kernel_rfl) (by simp [hn]) ?_
    simp [g1, ga, e2, ex0, q1, h01]
  · by_cases h2 : k = 2
    · subst h2
      simp only [show ¬ (2 : Int) = 1 by decide, if_false, if_true] at e1 ⊢
      simp [s0, e1, ex0, hn]
      refine draws [.r 0 1, .p, .e [], .p, .p, .p, .r 0 0, .p, .p, .p] (n := 34) (by kernel_rfl) (by simp [hn]) ?_
      by_cases h4 : n = 0 ∧ b = false
      · obtain ⟨rfl, rfl⟩ := h4
        by_cases h5 : s.length ≤ 32
        · have h5' : ((s.length : Nat) : Int) ≤ 32 := by omega
          simp [g1, gb, e3, ex0, q2, h02, len_str und9, h5, h5']
        · have h5' : ¬ ((s.length : Nat) : Int) ≤ 32 := by omega
          simp [g1, gb, e3, ex0, q2, h02, len_str und9, h5, h5']
      · have h4' : ¬ (n = 0 ∧ b = false) := h4
        simp [g1, gb, e3, ex0, q2, h02, h4']
        intro _ h5
        cases b
        · exact absurd ⟨h5, rfl⟩ h4
        · rfl
    · by_cases h3 : k = 3
      · subst h3
        simp only [show ¬ (3 : Int) = 1 by decide, show ¬ (3 : Int) = 2 by decide, if_false, if_true] at e1 ⊢
        simp [s0, e1, ex0, hn]
        refine draws [.r 0 1, .p, .e [], .p, .p] (n := 34) (by kernel_rfl) (by simp [hn]) ?_
        simp [g1, gc, e4, ex0, q3, h03]
      · simp only [h1, h2, h3, if_false] at e1 ⊢
        simp [s0, e1, ex0, hn, h1, h2, h3, hA.trans hT]
end Go.Proofs.YtpglcebeldgeeaaDoor.val

namespace Go.Proofs.YtpglcebeldgeeaaDoor.val
open Go Go.Am Go.Proofs.YtpglcebeldgeeaaDoor.laid
set_option linter.unusedVariables false
set_option linter.unusedSimpArgs false

section
variable {S : AS}
theorem bool27 (b : Bool) {Q : AV → AS → Prop} : CallW C0 33 [.bool b] S Q = Q (.str (if b then trueN else falseN)) S := by
  have e : ∀ Q, CallW C0 46 [.bool b] S Q = Q (.str (if b then trueN else falseN)) S := fun Q => by
    refine CallW.eq (enterW (pu0 _) (pr0 _ rfl) fn38 rfl ok38 (by simp) fun F hn hs => ?_)
    have s0 := hs 0
    clear hs
    simp only [List.getElem?_cons_zero, Option.getD_some] at s0
    cases b <;> simp [s0, trueN, falseN] <;> rfl
  refine CallW.eq (enterW (pu0 _) (pr0 _ rfl) fn27 rfl ok27 (by simp) fun F hn hs => ?_)
  have s0 := hs 0
  clear hs
  simp only [List.getElem?_cons_zero, Option.getD_some] at s0
  simp [s0, e, ex0]
theorem bool60 (b : Bool) {Q : AV → AS → Prop} : CallW C0 85 [.bool b] S Q = Q (.int .i64 ((if b then 1 else 0 : Nat) : Int)) S := by
  refine CallW.eq (enterW (pu0 _) (pr0 _ rfl) fn60 rfl ok60 (by simp) fun F hn hs => ?_)
  have s0 := hs 0
  clear hs
  simp only [List.getElem?_cons_zero, Option.getD_some] at s0
  cases b <;> simp [s0]
theorem shr_nat (kd : IntKind) (n k : Nat) (hk : k < kd.bits) (t : TypeId) (c : Bool) : binV C0 .shr t c (.int kd n) (.int .u64 k) = some (.int kd ((n / 2 ^ k : Nat) : Int)) := by
  show some (forceI (Int.fdiv (n : Int) (.ofNat (Nat.pow 2 (Nat.min k kd.bits)))) fun n => AV.int kd n) = _
  rw [forceI_eq]
  have h1 : Nat.min k kd.bits = k := Nat.min_eq_left (Nat.le_of_lt hk)
  rw [h1]
  have h2 : (n : Int).fdiv (Int.ofNat (Nat.pow 2 k)) = ((n / 2 ^ k : Nat) : Int) := by
    show (n : Int).fdiv ((2 ^ k : Nat) : Int) = _
    rw [Int.fdiv_eq_ediv_of_nonneg _ (Int.natCast_nonneg _)]
    exact (Int.natCast_ediv n (2 ^ k)).symm
  rw [h2]
noncomputable def tabOk (s : ByteArray) : Bool := (List.range 256).all fun i => match Am.nth i (mapL UInt8.toNat s.data.toList) with | some n => Nat.beq n (Lib.bitLen i) | none => false
theorem tabOk_at {s : ByteArray} (h : tabOk s = true) {i : Nat} (hi : i < 256) : Am.nth i (mapL UInt8.toNat s.data.toList) = some (Lib.bitLen i) := by
  have h1 := List.all_eq_true.1 h i (List.mem_range.2 hi)
  split at h1
  · rename_i n hn
    rw [hn, Nat.eq_of_beq_eq_true h1]
  · cases h1
theorem aop_tab {F : Fr} {S : AS} {dst : Option Tmp} {ty : TypeId} {pos : String} {af : Array Edge} {gd : Option (Nat × Bool)} {s : ByteArray} {x : Tmp} {k : IntKind} {y : Nat} (hx : sl F x = .int k y) (hy : y < 256) (h : tabOk s = true) :
    aop C0 F S ⟨dst, .index 9 (.const (.string s)) (.tmp x), ty, pos, af, gd⟩ = .val (.int .u8 (Lib.bitLen y : Nat)) S := by
  have e1 : eval F (.const (.string s)) = .str (mapL UInt8.toNat s.data.toList) := rfl
  simp only [aop, und9, e1, eval_tmp, hx, natOf_nat, tabOk_at h hy]
  rfl
theorem nt59 : Tryd.f64.ntmps = 25 := by kernel_rfl
theorem u8_of {y : Nat} (h : y < 256) : IntKind.u8.wrap (y : Int) = (y : Int) := by simp [IntKind.wrap, IntKind.bits, IntKind.signed]; omega
theorem i64_of {y : Nat} (h : y < 9223372036854775808) : IntKind.i64.wrap (y : Int) = (y : Int) := IntWalk.i64_in _ (by omega)
theorem u64_of {y : Nat} (h : y < 18446744073709551616) : IntKind.u64.wrap (y : Int) = (y : Int) := by simp [IntKind.wrap, IntKind.bits, IntKind.signed]; omega
theorem bl8 {y : Nat} (h : y < 256) : Lib.bitLen y ≤ 8 := Lib.bitLen_le8 ⟨y, h⟩
/-- A step of Len64. -/
theorem len_step {x : Nat} (k b : Nat) (hb : 2 ^ k = b) (hx : x < 18446744073709551616) : ∃ y m, (if b ≤ x then x / b else x) = y ∧ (if b ≤ x then k else 0) = m ∧ Lib.bitLen x = m + Lib.bitLen y := by
  by_cases h : b ≤ x
  · exact ⟨_, _, by rw [if_pos h], by rw [if_pos h], by subst hb; exact Lib.bitLen_shift k x h hx⟩
  · exact ⟨_, _, by rw [if_neg h], by rw [if_neg h], by omega⟩
def lnM (S : AS) (y n : Nat) (F' : Fr) (S' : AS) : Prop := S' = S ∧ sl F' 0 = .int .u64 (y : Int) ∧ sl F' 2 = .int .i64 (n : Int)
set_option maxRecDepth 100000 in
theorem len59 {x : Nat} (hx : x < 18446744073709551616) {Q : AV → AS → Prop} : CallW C0 64 [.int .u64 x] S Q = Q (.int .i64 (Lib.bitLen x : Nat)) S := by
  refine CallW.eq (enterW (pu0 _) (pr0 _ rfl) fn59 rfl ok59 (by simp) fun F hn hs => ?_)
  have s0 := hs 0
  clear hs
  simp only [List.getElem?_cons_zero, Option.getD_some] at s0
  obtain ⟨y1, n1, hy1, hn1, hb1⟩ := len_step (x := x) 32 4294967296 rfl hx
  have l1 : y1 < 4294967296 := by rw [← hy1]; split <;> omega
  obtain ⟨y2, n2, hy2, hn2, hb2⟩ := len_step (x := y1) 16 65536 rfl (by omega)
  have l2 : y2 < 65536 := by rw [← hy2]; split <;> omega
  obtain ⟨y3, n3, hy3, hn3, hb3⟩ := len_step (x := y2) 8 256 rfl (by omega)
  have l3 : y3 < 256 := by rw [← hy3]; split <;> omega
  have hl3 := bl8 l3
  rw [hb1, hb2, hb3]
  have r32 : ∀ c t, binV C0 .shr t c (.int .u64 x) (.int .u64 32) = some (.int .u64 ((x / 4294967296 : Nat) : Int)) := fun c t => shr_nat .u64 x 32 (by decide) t c
  have r16 : ∀ c t, binV C0 .shr t c (.int .u64 y1) (.int .u64 16) = some (.int .u64 ((y1 / 65536 : Nat) : Int)) := fun c t => shr_nat .u64 y1 16 (by decide) t c
  have r8 : ∀ c t, binV C0 .shr t c (.int .u64 y2) (.int .u64 8) = some (.int .u64 ((y2 / 256 : Nat) : Int)) := fun c t => shr_nat .u64 y2 8 (by decide) t c
  have w3 := u8_of l3
  have k1 : n1 = 0 ∨ n1 = 32 := by rw [← hn1]; split <;> omega
  have k2 : n2 = 0 ∨ n2 = 16 := by rw [← hn2]; split <;> omega
  have k3 : n3 = 0 ∨ n3 = 8 := by rw [← hn3]; split <;> omega
  simp [-wpP_cond, s0]
  refine cut_of (lnM S y1 n1) ?_ ?_
  · by_cases h : 4294967296 ≤ x
    · have h' : (4294967296 : Int) ≤ x := by omega
      rw [if_pos h] at hy1 hn1
      simp [s0, h', r32, lnM, hy1, ← hn1]
    · have h' : ¬ (4294967296 : Int) ≤ x := by omega
      rw [if_neg h] at hy1 hn1
      subst hy1 hn1
      simp [s0, h', lnM]
  clear s0
  rintro F1 S1 ⟨rfl, s0, s2⟩
  simp [-wpP_cond, kcode_app, s0, s2]
  refine cut_of (lnM S1 y2 (n1 + n2)) ?_ ?_
  · by_cases h : 65536 ≤ y1
    · have h' : (65536 : Int) ≤ y1 := by omega
      rw [if_pos h] at hy2 hn2
      have w := i64_of (y := n1 + 16) (by omega)
      simp at w
      simp [s0, s2, h', r16, lnM, hy2, ← hn2, w]
    · have h' : ¬ (65536 : Int) ≤ y1 := by omega
      rw [if_neg h] at hy2 hn2
      subst hy2 hn2
      simp [s0, s2, h', lnM]
  clear s0 s2
  rintro F2 S2 ⟨rfl, s0, s2⟩
  simp [-wpP_cond, kcode_app, s0, s2]
  refine cut_of (lnM S2 y3 (n1 + n2 + n3)) ?_ ?_
  · by_cases h : 256 ≤ y2
    · have h' : (256 : Int) ≤ y2 := by omega
      rw [if_pos h] at hy3 hn3
      have w := i64_of (y := n1 + n2 + 8) (by omega)
      simp at w
      simp [s0, s2, h', r8, lnM, hy3, ← hn3, w]
    · have h' : ¬ (256 : Int) ≤ y2 := by omega
      rw [if_neg h] at hy3 hn3
      subst hy3 hn3
      simp [s0, s2, h', lnM]
  clear s0 s2
  rintro F3 S3 ⟨rfl, s0, s2⟩
  have w4 := i64_of (y := Lib.bitLen y3) (by omega)
  have w5 := i64_of (y := n1 + n2 + n3 + Lib.bitLen y3) (by omega)
  simp at w5
  have cv5 : convT C0 5 3 = some .i64 := by kernel_rfl
  have cv55 : convT C0 93 5 = some .u8 := by kernel_rfl
  simp [kcode_app, s0, s2, w3, cv5, cv55]
  rw [aop_tab (k := .u8) (y := y3) (by simp) l3 (by kernel_rfl)]
  simp [w4, w5]
  omega
end
end Go.Proofs.YtpglcebeldgeeaaDoor.val

namespace Go.Proofs.YtpglcebeldgeeaaDoor.val
open Go Go.Am Go.Proofs.YtpglcebeldgeeaaDoor.laid
set_option linter.unusedVariables false
set_option linter.unusedSimpArgs false

section
variable {S : AS}
theorem log58 {y : Nat} (hy : y ≤ 64) {Q : AV → AS → Prop} : CallW C0 84 [.int .i64 y] S Q = Q (.int .i64 (Lib.l10 y : Nat)) S := by
  refine CallW.eq (enterW (pu0 _) (pr0 _ rfl) fn58 rfl ok58 (by simp) fun F hn hs => ?_)
  have s0 := hs 0
  clear hs
  simp only [List.getElem?_cons_zero, Option.getD_some] at s0
  have w := i64_of (y := y * 78913) (by omega)
  have r := shr_nat .i64 (y * 78913) 18 (by decide)
  simp at w r
  simp [s0, w, r, Lib.l10]
theorem pow_tab0 : ∀ i : Fin 20, p10[i.val]? = some ((10 ^ i.val : Nat) : Int) := by decide +kernel
theorem pow_tab (i : Fin 20) : (p10.map (AV.int .u64))[i.val]? = some (.int .u64 ((10 ^ i.val : Nat) : Int)) := by rw [List.getElem?_map, pow_tab0]; rfl
theorem glob1 : C0.globs.get 1 = some (p10.map (AV.int .u64)) := by kernel_rfl
theorem ud92 : und C0 125 = some (.array 20 93) := by kernel_rfl
theorem aop_pow_at {F : Fr} {dst : Option Tmp} {ty : TypeId} {pos : String} {af : Array Edge} {gd : Option (Nat × Bool)} {ix : Tmp} {i : Nat} (hx : sl F ix = .int .i64 i) (hi : i < 20) :
    aop C0 F S ⟨dst, .indexAddr 125 (.global 1) (.tmp ix), ty, pos, af, gd⟩ = .val (.glob 1 i) S := by
  have e1 : eval F (.global 1) = .glob 1 0 := rfl
  have sz : szOf C0 93 = some 1 := by kernel_rfl
  simp only [aop, ud92, e1, eval_tmp, hx, natOf_nat, sz, nblt, hi, decide_true, cond_true, forceN_eq]
  exact congrArg (fun o => AR.val (AV.glob 1 o) S) (show 0 + i * 1 = i by omega)
theorem aop_pow_ld {F : Fr} {dst : Option Tmp} {ty : TypeId} {pos : String} {af : Array Edge} {gd : Option (Nat × Bool)} {x : Tmp} {i : Nat} (hx : sl F x = .glob 1 i) (hi : i < 20) :
    aop C0 F S ⟨dst, .load 93 (.tmp x), ty, pos, af, gd⟩ = .val (.int .u64 ((10 ^ i : Nat) : Int)) S := by
  have ag : aggOf C0 93 = some false := by kernel_rfl
  have h := pow_tab ⟨i, hi⟩
  simp only [aop, eval_tmp, hx, glob1, globV, ag, nth_eq, h]
  rfl
theorem nt49 : Tryd.f67.ntmps = 15 := by kernel_rfl
theorem num49 {u : Nat} (h1 : 1 ≤ u) (h2 : u < 18446744073709551616) {Q : AV → AS → Prop} : CallW C0 67 [.int .u64 u] S Q = Q (.int .i64 (Lib.nDigits u : Nat)) S := by
  obtain ⟨hd, hl⟩ := Lib.numDigits_eq u h1 h2
  have hb : Lib.bitLen u ≤ 64 := Lib.bitLen_le u 64 (Nat.le_refl _) h2
  rw [← hd]
  generalize hL : Lib.l10 (Lib.bitLen u) = L at hl
  have e59 := fun Q => len59 (S := S) h2 (Q := Q)
  have e58 := fun Q => log58 (S := S) hb (Q := Q)
  rw [hL] at e58
  have pa := fun (F : Fr) (dst : Option Tmp) (ty : TypeId) (pos : String) (af : Array Edge) (gd : Option (Nat × Bool)) (ix : Tmp) (a : sl F ix = .int .i64 L) => aop_pow_at (S := S) (F := F) (dst := dst) (ty := ty) (pos := pos) (af := af) (gd := gd) a (show L < 20 by omega)
  have pl := fun (F : Fr) (dst : Option Tmp) (ty : TypeId) (pos : String) (af : Array Edge) (gd : Option (Nat × Bool)) (x : Tmp) (a : sl F x = .glob 1 L) => aop_pow_ld (S := S) (F := F) (dst := dst) (ty := ty) (pos := pos) (af := af) (gd := gd) a (show L < 20 by omega)
  generalize hp : 10 ^ L = p at pl
  refine CallW.eq (enterW (pu0 _) (pr0 _ rfl) fn49 rfl ok49 (by simp) fun F hn hs => ?_)
  have s0 := hs 0
  clear hs
  simp only [List.getElem?_cons_zero, Option.getD_some] at s0
  by_cases hq : p ≤ u
  · have b60 := fun Q => bool60 (S := S) true (Q := Q)
    have w := i64_of (y := L + 1) (by omega)
    have hq' : (p : Int) ≤ u := by omega
    simp at w b60
    simp [s0, e59, e58, ex0, pa, pl, hq', b60, hq, w]
  · have b60 := fun Q => bool60 (S := S) false (Q := Q)
    have w := i64_of (y := L) (by omega)
    have hq' : ¬ (p : Int) ≤ u := by omega
    simp at w b60
    simp [s0, e59, e58, ex0, pa, pl, hq', b60, hq, w]
theorem dig_tab : ∀ i : Fin 10, List.take 1 (List.drop i.val [48, 49, 50, 51, 52, 53, 54, 55, 56, 57, 97, 98, 99, 100, 101, 102, 103, 104, 105, 106, 107, 108, 109, 110, 111, 112, 113, 114, 115, 116, 117, 118, 119, 120, 121, 122]) = [48 + i.val] := by decide +kernel
theorem sml_tab : ∀ i : Fin 100, List.take 2 (List.drop (i.val * 2) [48, 48, 48, 49, 48, 50, 48, 51, 48, 52, 48, 53, 48, 54, 48, 55, 48, 56, 48, 57, 49, 48, 49, 49, 49, 50, 49, 51, 49, 52, 49, 53, 49, 54, 49, 55, 49, 56, 49, 57, 50, 48, 50, 49, 50, 50, 50, 51, 50, 52, 50, 53, 50, 54, 50, 55, 50, 56, 50, 57, 51, 48, 51, 49, 51, 50, 51, 51, 51, 52, 51, 53, 51, 54, 51, 55, 51, 56, 51, 57, 52, 48, 52, 49, 52, 50, 52, 51, 52, 52, 52, 53, 52, 54, 52, 55, 52, 56, 52, 57, 53, 48, 53, 49, 53, 50, 53, 51, 53, 52, 53, 53, 53, 54, 53, 55, 53, 56, 53, 57, 54, 48, 54, 49, 54, 50, 54, 51, 54, 52, 54, 53, 54, 54, 54, 55, 54, 56, 54, 57, 55, 48, 55, 49, 55, 50, 55, 51, 55, 52, 55, 53, 55, 54, 55, 55, 55, 56, 55, 57, 56, 48, 56, 49, 56, 50, 56, 51, 56, 52, 56, 53, 56, 54, 56, 55, 56, 56, 56, 57, 57, 48, 57, 49, 57, 50, 57, 51, 57, 52, 57, 53, 57, 54, 57, 55, 57, 56, 57, 57]) = [48 + i.val / 10, 48 + i.val % 10] := by decide +kernel
theorem decN_two {u : Nat} (h1 : ¬ u < 10) (h2 : u < 100) : decN u = [48 + u / 10, 48 + u % 10] := by
  rw [decN_big h1, decN_small (by omega)]
  rfl
theorem nt48 : Tryd.f66.ntmps = 15 := by kernel_rfl
set_option maxRecDepth 100000 in
theorem small48 {u : Nat} (h : u < 100) {Q : AV → AS → Prop} : CallW C0 66 [.int .i64 u] S Q = Q (.str (decN u)) S := by
  refine CallW.eq (enterW (pu0 _) (pr0 _ rfl) fn48 rfl ok48 (by simp) fun F hn hs => ?_)
  have s0 := hs 0
  clear hs
  simp only [List.getElem?_cons_zero, Option.getD_some] at s0
  have w1 := i64_of (y := u + 1) (by omega)
  have w2 := i64_of (y := u * 2) (by omega)
  have w3 := i64_of (y := u * 2 + 2) (by omega)
  simp at w1 w2 w3
  have b0 : ∀ (F : Fr) (x : Tmp) (d : Nat), sl F x = .int .i64 (u : Int) → bound F (some (.tmp x)) d = some u := fun F x d h => by
    rw [bound_some, eval_tmp, h]; exact natOf_nat
  have b1 : ∀ (F : Fr) (x : Tmp) (d : Nat), sl F x = .int .i64 ((u : Int) + 1) → bound F (some (.tmp x)) d = some (u + 1) := fun F x d h => by
    rw [bound_some, eval_tmp, h, show ((u : Int) + 1) = ((u + 1 : Nat) : Int) by omega]; exact natOf_nat
  have b2 : ∀ (F : Fr) (x : Tmp) (d : Nat), sl F x = .int .i64 ((u : Int) * 2) → bound F (some (.tmp x)) d = some (u * 2) := fun F x d h => by
    rw [bound_some, eval_tmp, h, show ((u : Int) * 2) = ((u * 2 : Nat) : Int) by omega]; exact natOf_nat
  have b3 : ∀ (F : Fr) (x : Tmp) (d : Nat), sl F x = .int .i64 ((u : Int) * 2 + 2) → bound F (some (.tmp x)) d = some (u * 2 + 2) := fun F x d h => by
    rw [bound_some, eval_tmp, h, show ((u : Int) * 2 + 2) = ((u * 2 + 2 : Nat) : Int) by omega]; exact natOf_nat
  by_cases h10 : u < 10
  · have h10' : (u : Int) < 10 := by omega
    have sv := fun (F : Fr) (s : List Nat) (a b : Tmp) (h1 : bound F (some (.tmp a)) 0 = some u) (h2 : bound F (some (.tmp b)) s.length = some (u + 1)) (h3 : u + 1 ≤ s.length) => sliceV_text (cx := C0) (t := 9) sT9 h1 h2 (by omega) h3
    have l1 : u ≤ 35 := by omega
    simp [s0, h10', w1, b0, b1, sv, l1]
    rw [decN_small h10]
    exact dig_tab ⟨u, h10⟩
  · have h10' : ¬ (u : Int) < 10 := by omega
    have sv := fun (F : Fr) (s : List Nat) (a b : Tmp) (h1 : bound F (some (.tmp a)) 0 = some (u * 2)) (h2 : bound F (some (.tmp b)) s.length = some (u * 2 + 2)) (h3 : u * 2 + 2 ≤ s.length) => sliceV_text (cx := C0) (t := 9) sT9 h1 h2 (by omega) h3
    have l1 : u * 2 ≤ 198 := by omega
    simp [s0, h10', w2, w3, b2, b3, sv, l1]
    rw [decN_two h10 h]
    exact sml_tab ⟨u, h⟩
end
end Go.Proofs.YtpglcebeldgeeaaDoor.val
