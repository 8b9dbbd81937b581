/-
  'JudgeKeeps': what was run, as a law over all numbers.
  'JudgeKeeps' under its condition.
  'JudgeKeeps' as the row states it.
-/
import Derived.Test.YtpgmahedcpepkaaGreatDoorRunA
import Derived.Test.YtpgmahedcpepkaaGreatDoorAmRow
import Derived.Test.YtpgmahedcpepkaaGreatDoorPartB
import Derived.Test.YtpgmahedcpepkaaGreatDoorRunD
import Derived.Test.YtpgmahedcpepkaaGreatDoorRunE
import Derived.Test.YtpgmahedcpepkaaGreatDoorFactsA
import Derived.Test.YtpgmahedcpepkaaGreatDoorFactsB
import Derived.Test.YtpgmahedcpepkaaGreatDoorFactsC
import Derived.Test.YtpgmahedcpepkaaGreatDoorFactsD
import Derived.Test.YtpgmahedcpepkaaGreatDoorFactsE
import Derived.Test.YtpgmahedcpepkaaGreatDoorPartD
namespace Go.Proofs.YtpgmahedcpepkaaGreatDoor.judgeKeeps
open Go Go.RowKit Go.Am
set_option linter.unusedVariables false
set_option linter.unusedSimpArgs false

theorem pu4 : C.pures.get 4 = none := by kernel_rfl
theorem pr4 : C.prims.get 4 = none := by kernel_rfl
theorem fn4 : C.fns.get 4 = some Tryz.f4 := by kernel_rfl
theorem nt4 : Tryz.f4.ntmps = 95 := by kernel_rfl
@[simp] theorem cv5_30 : convT C 5 30 = some .u64 := by kernel_rfl
theorem u64n {n : Nat} (h : n < 18446744073709551616) : IntKind.u64.wrap (n : Int) = (n : Int) := by
  unfold IntKind.wrap
  simp [IntKind.bits, IntKind.signed]
  omega
set_option maxRecDepth 20000 in
theorem law (w n : Nat) (hw : w < 256) (h : okB w n (w % 4) = true) : CallW C 4 [.int .u8 (w : Int), .int .u64 (n : Int)] ⟨.leaf, 0⟩ fun v _ => v = .bool true := by
  have hr : w % 4 < 4 := Nat.mod_lt _ (by decide)
  have hc : IntKind.u64.wrap ((w % 4 : Nat) : Int) = ((w % 4 : Nat) : Int) := u64n (by omega)
  refine call_done (o1 := ⟨.normal, F1 w n, ⟨.leaf, 0⟩⟩) (o2 := ⟨.normal, F2 w n (w % 4), ⟨.leaf, 0⟩⟩) (n := 1000000) pu4 pr4 fn4 rfl ?_ rfl ?_ rfl ?_
  · refine Runs.wp (by rw [n_initF]; kernel_rfl) ?_
    rw [nt4]
    simp
    rfl
  · refine Runs.wp (by kernel_rfl) ?_
    have s0 : sl (F1 (w : Int) n) 0 = .int .u8 (w : Int) := rfl
    have hn : (F1 (w : Int) n).n = 95 := rfl
    simp [s0, hn, bin_rem]
    have h2 : (w : Int).tmod 4 = ((w % 4 : Nat) : Int) := rfl
    rw [h2, hc]
    rfl
  · rw [← execK_eq]; exact h
theorem walk (w n : Nat) (hw : w < 256) (h : okB w n (w % 4) = true) (W : World) : Calls Tryz.prog 4 #[.int .u8 (w : Int), .int .u64 (n : Int)] W fun e w' => e = .returned (.bool true) ∧ Below W.heap.size W w' := by
  have hR0 := empty_R (Λ := ⟨W, fun b => False⟩) W (Nat.le_refl _) (fun b hb => hb.elim)
  have hl : LRel (fun _ _ => none) [.int .u8 (w : Int), .int .u64 (n : Int)] (#[.int .u8 (w : Int), .int .u64 (n : Int)] : Array Value).toList := by simp [LRel, VRel]
  refine (calls_of (laid.ready ask.A2 rfl rfl) (ask.prims _) (fun x hx => by cases hx) hR0 hl (law w n hw h)).2.mono ?_
  rintro e w' ⟨x, v, S', ρ', rfl, h1, rfl, h3, h4⟩
  simp only [VRel] at h1
  refine ⟨by rw [h1], h4.os, h4.tape, h4.output, h4.size, fun k hk => ?_⟩
  exact h4.keep k hk (by rintro ⟨i, o, g, pl, ho, _⟩; cases ho)
end Go.Proofs.YtpgmahedcpepkaaGreatDoor.judgeKeeps

namespace Go.Proofs.YtpgmahedcpepkaaGreatDoor.judgeKeeps
open Go Go.Am Go.ChangeShapes Go.WideShapes Go.ChangeAt Go.RowKit
set_option linter.unusedVariables false

theorem ok_all (w n : Nat) : okB w n (w % 4) = true := by
  have hr : w % 4 < 4 := Nat.mod_lt _ (by decide)
  obtain ⟨r, hw⟩ : ∃ r, r = w % 4 := ⟨_, rfl⟩
  rw [← hw] at hr ⊢
  clear hw
  match r, hr with
  | 0, _ => match n with
    | 0 => exact run00 w
    | 1 => exact run01 w
    | 2 => exact run02 w
    | k + 3 => exact run0k w k
  | 1, _ => match n with
    | 0 => exact run10 w
    | 1 => exact run11 w
    | 2 => exact run12 w
    | 3 => exact run13 w
    | k + 4 => exact run1k w k
  | 2, _ => match n with
    | 0 => exact run20 w
    | 1 => exact run21 w
    | 2 => exact run22 w
    | 3 => exact run23 w
    | 4 => exact run24 w
    | k + 5 => exact run2k w k
  | 3, _ => match n with
    | 0 => exact run30 w
    | 1 => exact run31 w
    | 2 => exact run32 w
    | 3 => exact run33 w
    | 4 => exact run34 w
    | 5 => exact run35 w
    | k + 6 => exact run3k w k
theorem nat_of {k : IntKind} {n : Int} (hm : k.min = 0) (h : (Lit.int k n).wf = true) : ∃ m : Nat, n = (m : Int) ∧ (m : Int) ≤ k.max := by
  simp only [Lit.wf, hm, Bool.and_eq_true, decide_eq_true_eq] at h
  exact ⟨n.toNat, by omega, by omega⟩
set_option maxRecDepth 100000 in
theorem lifted (os : Os) (started : os.Started) (H : Type) (enc : TypeId × Value → H) :
    ReturnsInHanded {} Tryz.checked os 4 .any (fun w args => (Rows.judgeKeepsSpec.pre enc Tryz.prog Tryz.f4 [] false w args ∧ laidMetH Tryz.prog laid.L w) ∧ sizedMet enc Tryz.prog Tryz.f4 (OpenSpec.ofChange Rows.judgeKeepsSpec) false w args)
      (Rows.judgeKeepsSpec.post enc Tryz.prog Tryz.f4 false true false false) := by
  refine returnsInHanded_of_change_and (C := Tryz.checked) (X := fun w _ => laidMetH Tryz.prog laid.L w) (fun _ _ _ hh h => h.of_heap hh) laid.own started (by kernel_rfl) Tryz.func4
    (ChangeSpec.witness_at (enc := enc) (C := Tryz.checked) (os := os) (X := fun w _ => laidMetH Tryz.prog laid.L w) false (laid.laidWorld os) #[.int .u8 0, .int .u64 0] 4 rfl (by kernel_rfl) (by kernel_rfl) (by kernel_rfl) (by kernel_rfl) (by kernel_rfl) (laid.laidWorld_met os _)) ?_
  intro W base args ds gs before hval0 hW _ _ hL _
  have hval : ∀ (j : Nat) t v, Tryz.f4.params[j]? = some t → args[j]? = some v → Value.okWide Tryz.prog W .any base t v := hval0
  have hW' := hW
  obtain ⟨p, q, hA0, hV0, rfl, hfz, hnd⟩ := hW
  have hA : DataW.TrodAll enc Tryz.prog W 0 (fun _ => true) true Tryz.f4.params.toList args.toList ds p := hA0
  rw [Tryz.params4] at hA hval
  obtain ⟨v0, vs0, d0, ds0, p0, q0, hargs, rfl, rfl, h0, r0⟩ := trodAll_cons hA
  obtain ⟨v1, vs1, d1, ds1, p1, q1, rfl, rfl, rfl, h1, r1⟩ := trodAll_cons r0
  obtain ⟨rfl, rfl, rfl⟩ := trodAll_nil r1
  obtain rfl : args = #[v0, v1] := by cases args; simp_all
  obtain ⟨rfl, rfl⟩ := trodVars_none hV0
  obtain ⟨n0, rfl, rfl, rfl, w0⟩ := open_int (k := .u8) (by kernel_rfl) (hval 0 5 v0 rfl rfl) h0
  obtain ⟨n1, rfl, rfl, rfl, w1⟩ := open_int (k := .u64) (by kernel_rfl) (hval 1 30 v1 rfl rfl) h1
  obtain ⟨w, rfl, hw⟩ := nat_of (by decide) w0
  obtain ⟨n, rfl, hn⟩ := nat_of (by decide) w1
  have hw2 : w < 256 := by
    have h : (w : Int) ≤ 255 := hw
    omega
  clear hA0 hval0
  simp only [List.append_nil] at hW'
  refine (walk w n hw2 (ok_all w n) W).mono fun e W' ⟨he, hb⟩ => ?_
  subst he
  exact ⟨_, rfl, _, _, _, _, _, _, hW', (trodAll_cons_mk (shut_bool Tryz.underlying4 _) trodAll_mk0), (trodAll_cons_mk (shut_int (k := .u8) (by kernel_rfl) w0) (trodAll_cons_mk (shut_int (k := .u64) (by kernel_rfl) w1) trodAll_mk0)), rfl, hb.frame _, fun h => by cases h⟩
end Go.Proofs.YtpgmahedcpepkaaGreatDoor.judgeKeeps

namespace Go.Proofs.YtpgmahedcpepkaaGreatDoor.judgeKeeps
open Go Go.ChangeShapes Go.WideShapes Go.ChangeAt Go.RowKit
set_option linter.unusedVariables false

/-- The row's cells, piece by piece. -/
def smallFacts (P : Program) (fn : Func) (s : ChangeSpec) (c : OpenClaim) : Bool :=
  c.wf (OpenSpec.ofChange s) && fn.params.all (P.readableRec ·) && (c.stops == []) && (c.knobs == []) &&
  (c.maps == (fn.params.toList ++ s.plain.varTypes P).any (P.mapsRec ·)) && (c.ifaces == (fn.params.toList ++ s.plain.varTypes P).any (P.ifacesRec ·)) && (c.mapsOut == P.mapsAmong fn.resultTypes.toList) &&
  (c.loops == (fn.params.toList ++ s.plain.varTypes P).any (P.loopsFrom ·)) && (c.wideKeys == (fn.params.toList ++ s.plain.varTypes P ++ fn.resultTypes.toList).any (P.wideKeysFrom ·)) &&
  s.vars.all (P.varReadable ·) && fn.resultTypes.all (fun t => P.readableRec t && decide (t < P.types.size)) && (c.ifacesOut == fn.resultTypes.toList.any (P.ifacesRec ·)) && (c.loopsOut == fn.resultTypes.toList.any (P.loopsFrom ·)) && c.shortTexts.isNone && (c.kinds == (if c.domain.isEmpty then [] else fn.params.toList.map fun t => match P.underlying t with | some (.int k) => some k | _ => none)) && (c.pinned == c.pinnedBy) &&
  (c.veiled == (fn.params.toList ++ s.plain.varTypes P ++ fn.resultTypes.toList).any (P.veiledRec ·)) && c.veiledFits P fn.params.toList (fn.params.toList ++ s.plain.varTypes P ++ fn.resultTypes.toList)
theorem joined_of {P : Program} {f : FuncId} {fn : Func} {s : ChangeSpec} {c : OpenClaim} (h1 : laidOutB P = true) (h2 : mapsRowed P = true) (h3 : namedTie P c.named s.vars = true) (h4 : ((P.stops == []) && (P.stopKnobs == [])) = true)
    (h5 : (c.inPlace == P.inPlace f) = true) (h6 : (c.unfollowed == P.unfollowed f) = true) (h7 : (c.recurses == P.recurses f) = true) (h8 : (c.named == P.varsNamed f) = true) (h9 : (c.plainKeys == P.plainKeys) = true) (h10 : P.stopsHeard = true)
    (h11 : P.mayEnter = true) (h12 : (c.lifted == P.liftsFinal) = true) (h13 : (P.make == some c.make) = true) (rest : smallFacts P fn s c = true) : joinedFacts P f fn s c = true := by
  unfold smallFacts at rest
  unfold joinedFacts
  simp only [Bool.and_eq_true] at h4 rest ⊢
  obtain ⟨⟨⟨⟨⟨⟨⟨⟨⟨⟨⟨⟨⟨⟨⟨⟨⟨r1, r2⟩, r3⟩, r4⟩, r5⟩, r6⟩, r7⟩, r8⟩, r9⟩, r10⟩, r11⟩, r12⟩, r13⟩, r14⟩, r15⟩, r16⟩, r17⟩, r18⟩ := rest
  exact ⟨⟨⟨⟨⟨⟨⟨⟨⟨⟨⟨⟨⟨⟨⟨⟨⟨⟨⟨⟨⟨⟨⟨⟨⟨⟨⟨⟨⟨⟨⟨r1, h1⟩, h2⟩, r2⟩, h3⟩, r3⟩, h4.1⟩, r4⟩, h4.2⟩, h5⟩, h6⟩, h7⟩, h8⟩, r5⟩, r6⟩, r7⟩, r8⟩, r9⟩, r10⟩, r11⟩, r12⟩, r13⟩, h9⟩, r14⟩, h10⟩, h11⟩, h12⟩, h13⟩, r15⟩, r16⟩, r17⟩, r18⟩

theorem over : Rows.JudgeKeepsSaid :=
  OpenClaim.holds_of_wide 4 Tryz.f4 rfl rfl rfl rfl rfl rfl rfl ⟨rfl, rfl, rfl, rfl, rfl⟩ rfl rfl rfl rfl rfl k_fn Tryz.func4 (joined_of k_laidOut k_mapsRowed k_namedTie k_stops k_inPlace k_unfollowed k_recurses k_named k_plainKeys k_stopsHeard k_mayEnter k_lifts k_make (by kernel_rfl))
    (of_decide_eq_true (by kernel_rfl)) (by unfold Func.isWrapper; first | (rw [if_pos (by decide +kernel)]; kernel_rfl) | (rw [if_neg (by decide +kernel)]; exact ⟨rfl, rfl⟩))
    (fun os started H enc _ => lifted os started H enc)
end Go.Proofs.YtpgmahedcpepkaaGreatDoor.judgeKeeps
