/-
  'TreePubs' answers true for all integers: 'awake' by the abstract machine, 'Pub' and 'Home' by their contracts.
-/
import Derived.Test.YtpjebmdeaieniaaRows
import Derived.Test.YtpjebmdeaieniaaAmPrim
import Derived.WalkKit
import Derived.ProofKit
import Derived.OpenShut
namespace Go.Proofs.Ytpjebmdeaieniaa.treePubs
open Go Go.Am Go.ChangeShapes Go.WideShapes Go.ChangeAt Go.RowKit
set_option linter.unusedVariables false
set_option linter.unusedSimpArgs false

theorem own : ownKnob Try.prog.godebug = none := by kernel_rfl
theorem names : Try.prog.funcs.toList.all (fun fn => !(fn.name == "runtime.NumGoroutine")) = true := by kernel_rfl
theorem readyOf (A : Am.Ask) (h1 : A.eqs = []) (h2 : A.exts = []) : Am.Ready Try.prog A :=
  ⟨by kernel_rfl, fun _ h => (by rw [h1] at h; cases h), Am.enters_ok names, fun _ h => (by rw [h2] at h; cases h)⟩

/-! ### What is known ahead -/
noncomputable def A0 : Am.Ask := {}
noncomputable def C0 : Am.Cx := Am.mkCx Try.prog A0
theorem answer : true = Am.says Try.prog A0 1000000 8 true := by kernel_rfl
theorem awake (w : World) : Calls Try.prog 8 #[] w fun e w' => e = .returned (.bool true) ∧ Below w.heap.size w w' :=
  Am.call_bool (readyOf A0 rfl rfl) rfl rfl 1000000 8 true answer w

noncomputable def pubQ (l : List AV) (S : AS) : Option (AV × AS) := match l with
  | [.int .i64 a, .int .i64 b] => some (if 0 ≤ a ∧ a < 64 ∧ 0 ≤ b ∧ b < 4 then .tuple [.int .i64 (a * 4 + b), .int .i64 0] else .tuple [.int .i64 0, .int .i64 1], S)
  | _ => none
noncomputable def homeQ (l : List AV) (S : AS) : Option (AV × AS) := match l with
  | [.int .i64 a] => some (if 0 ≤ a ∧ a < 256 then .tuple [.int .i64 (a / 4), .int .i64 (a % 4), .int .i64 0] else .tuple [.int .i64 0, .int .i64 0, .int .i64 1], S)
  | _ => none

theorem fn22 : C0.fns.get 22 = some Try.f22 := by kernel_rfl
theorem pr22 : C0.prims.get 22 = none := by kernel_rfl
theorem ok22 : codeOk C0 Try.f22.ntmps (Try.f22.body.getD .skip) = true := by kernel_rfl
theorem fn23 : C0.fns.get 23 = some Try.f23 := by kernel_rfl
theorem pr23 : C0.prims.get 23 = none := by kernel_rfl
theorem ok23 : codeOk C0 Try.f23.ntmps (Try.f23.body.getD .skip) = true := by kernel_rfl

theorem pub_yes (a b : Int) (S : AS) (h1 : 0 ≤ a) (h2 : a < 64) (h3 : 0 ≤ b) (h4 : b < 4) : CallW C0 22 [.int .i64 a, .int .i64 b] S fun v T => v = .tuple [.int .i64 (a * 4 + b), .int .i64 0] ∧ Sub S T := by
  refine enterW pr22 fn22 rfl ok22 (by simp) fun F hn hs => ?_
  have s0 := hs 0
  have s1 := hs 1
  clear hs
  simp only [List.getElem?_cons_zero, List.getElem?_cons_succ, Option.getD_some] at s0 s1
  have t1 : ¬ a < 0 := by omega
  have t2 : ¬ 64 ≤ a := by omega
  have t3 : ¬ b < 0 := by omega
  have t4 : ¬ 4 ≤ b := by omega
  have w1 : IntKind.i64.wrap (a * 4) = a * 4 := IntWalk.i64_in _ (by omega)
  have w2 : IntKind.i64.wrap (a * 4 + b) = a * 4 + b := IntWalk.i64_in _ (by omega)
  simp [s0, s1, t1, t2, t3, t4, w1, w2, Sub.refl]
theorem pub_no (a b : Int) (S : AS) (h : ¬ (0 ≤ a ∧ a < 64 ∧ 0 ≤ b ∧ b < 4)) : CallW C0 22 [.int .i64 a, .int .i64 b] S fun v T => v = .tuple [.int .i64 0, .int .i64 1] ∧ Sub S T := by
  refine enterW pr22 fn22 rfl ok22 (by simp) fun F hn hs => ?_
  have s0 := hs 0
  have s1 := hs 1
  clear hs
  simp only [List.getElem?_cons_zero, List.getElem?_cons_succ, Option.getD_some] at s0 s1
  by_cases t1 : a < 0
  · simp [s0, s1, t1, Sub.refl]
  by_cases t2 : 64 ≤ a
  · simp [s0, s1, t1, t2, Sub.refl]
  by_cases t3 : b < 0
  · simp [s0, s1, t1, t2, t3, Sub.refl]
  by_cases t4 : 4 ≤ b
  · simp [s0, s1, t1, t2, t3, t4, Sub.refl]
  · omega
theorem home_yes (a : Int) (S : AS) (h1 : 0 ≤ a) (h2 : a < 256) : CallW C0 23 [.int .i64 a] S fun v T => v = .tuple [.int .i64 (a / 4), .int .i64 (a % 4), .int .i64 0] ∧ Sub S T := by
  refine enterW pr23 fn23 rfl ok23 (by simp) fun F hn hs => ?_
  have s0 := hs 0
  clear hs
  simp only [List.getElem?_cons_zero, Option.getD_some] at s0
  have t1 : ¬ a < 0 := by omega
  have t2 : ¬ 256 ≤ a := by omega
  have e1 : a.tdiv 4 = a / 4 := Int.tdiv_eq_ediv_of_nonneg h1
  have e2 : a.tmod 4 = a % 4 := Int.tmod_eq_emod_of_nonneg h1
  have w1 : IntKind.i64.wrap (a / 4) = a / 4 := IntWalk.i64_in _ (by omega)
  simp [s0, t1, t2, e1, e2, w1, Sub.refl]
theorem home_no (a : Int) (S : AS) (h : ¬ (0 ≤ a ∧ a < 256)) : CallW C0 23 [.int .i64 a] S fun v T => v = .tuple [.int .i64 0, .int .i64 0, .int .i64 1] ∧ Sub S T := by
  refine enterW pr23 fn23 rfl ok23 (by simp) fun F hn hs => ?_
  have s0 := hs 0
  clear hs
  simp only [List.getElem?_cons_zero, Option.getD_some] at s0
  by_cases t1 : a < 0
  · simp [s0, t1, Sub.refl]
  by_cases t2 : 256 ≤ a
  · simp [s0, t1, t2, Sub.refl]
  · omega

section
variable {Λ : LB}
theorem noP : ∀ x, x ∈ A0.prims → PrimOk Λ Try.prog x.1 x.2 := fun _ h => by cases h
theorem noG : ∀ x, x ∈ A0.globs → GlobOk Λ.w Λ.B x.1 x.2 := fun _ h => by cases h
theorem pub_ok : PrimOk Λ Try.prog 22 pubQ := by
  refine prim_flat (readyOf A0 rfl rfl) noP noG 2 fun l S v S' hq => ?_
  unfold pubQ at hq
  split at hq
  · rename_i a b
    simp only [Option.some.injEq, Prod.mk.injEq] at hq
    obtain ⟨rfl, rfl⟩ := hq
    by_cases h : 0 ≤ a ∧ a < 64 ∧ 0 ≤ b ∧ b < 4
    · rw [if_pos h]; exact ⟨rfl, rfl, pub_yes a b S h.1 h.2.1 h.2.2.1 h.2.2.2⟩
    · rw [if_neg h]; exact ⟨rfl, rfl, pub_no a b S h⟩
  · cases hq
theorem home_ok : PrimOk Λ Try.prog 23 homeQ := by
  refine prim_flat (readyOf A0 rfl rfl) noP noG 2 fun l S v S' hq => ?_
  unfold homeQ at hq
  split at hq
  · rename_i a
    simp only [Option.some.injEq, Prod.mk.injEq] at hq
    obtain ⟨rfl, rfl⟩ := hq
    by_cases h : 0 ≤ a ∧ a < 256
    · rw [if_pos h]; exact ⟨rfl, rfl, home_yes a S h.1 h.2⟩
    · rw [if_neg h]; exact ⟨rfl, rfl, home_no a S h⟩
  · cases hq
end

/-! ### The law -/
noncomputable def A1 : Am.Ask := { prims := [(8, boolQ true), (22, pubQ), (23, homeQ)] }
noncomputable def C1 : Am.Cx := Am.mkCx Try.prog A1
theorem fn6 : C1.fns.get 6 = some Try.f6 := by kernel_rfl
theorem pr6 : C1.prims.get 6 = none := by kernel_rfl
theorem ok6 : codeOk C1 Try.f6.ntmps (Try.f6.body.getD .skip) = true := by kernel_rfl
theorem pr8 : C1.prims.get 8 = some (boolQ true) := by kernel_rfl
theorem pr22' : C1.prims.get 22 = some pubQ := by kernel_rfl
theorem pr23' : C1.prims.get 23 = some homeQ := by kernel_rfl
theorem und4 : und C1 4 = some .bool := by kernel_rfl
theorem ex (f : Nat) : C1.exts.get f = none := get_leaf f
theorem callAwake {S : AS} {Q : AV → AS → Prop} : CallW C1 8 [] S Q = Q (.bool true) S := callW_prim pr8 rfl
theorem callPub {S : AS} {Q : AV → AS → Prop} {a b : Int} : CallW C1 22 [.int .i64 a, .int .i64 b] S Q = Q (if 0 ≤ a ∧ a < 64 ∧ 0 ≤ b ∧ b < 4 then .tuple [.int .i64 (a * 4 + b), .int .i64 0] else .tuple [.int .i64 0, .int .i64 1]) S := callW_prim pr22' rfl
theorem callHome {S : AS} {Q : AV → AS → Prop} {a : Int} : CallW C1 23 [.int .i64 a] S Q = Q (if 0 ≤ a ∧ a < 256 then .tuple [.int .i64 (a / 4), .int .i64 (a % 4), .int .i64 0] else .tuple [.int .i64 0, .int .i64 0, .int .i64 1]) S := callW_prim pr23' rfl

/-- The last part: of a number. -/
theorem tail_e (c : Int) (h1 : 0 ≤ c) (h2 : c < 256) : (0 ≤ c / 4 ∧ c / 4 < 64 ∧ 0 ≤ c % 4 ∧ c % 4 < 4) = True ∧ c / 4 * 4 + c % 4 = c := by
  constructor
  · simp; omega
  · omega

noncomputable def may (a b : Int) : Bool := decide (0 ≤ a ∧ a < 64 ∧ 0 ≤ b ∧ b < 4)
noncomputable def pubV (a b : Int) : Int := if 0 ≤ a ∧ a < 64 ∧ 0 ≤ b ∧ b < 4 then a * 4 + b else 0
noncomputable def errV (a b : Int) : Int := if 0 ≤ a ∧ a < 64 ∧ 0 ≤ b ∧ b < 4 then 0 else 1

set_option maxHeartbeats 4000000 in
theorem law (a b c : Int) (S : AS) : CallW C1 6 [.int .i64 a, .int .i64 b, .int .i64 c] S fun v _ => v = .bool true := by
  refine enterW pr6 fn6 rfl ok6 (by simp) fun F hn hs => ?_
  have s0 := hs 0
  have s1 := hs 1
  have s2 := hs 2
  clear hs
  simp only [List.getElem?_cons_zero, List.getElem?_cons_succ, Option.getD_some] at s0 s1 s2
  repeat refine s_seq ?_
  refine s_reg (fun G T => T = S ∧ agree [0, 1, 2] G F) (by simp [agree_refl]) ?_
  rintro G T ⟨rfl, ha⟩
  simp [s0, s1, s2] at ha
  obtain ⟨s0, s1, s2⟩ := ha
  clear hn
  repeat refine s_seq ?_
  refine s_reg (fun G' T' => T' = T ∧ sl G' 0 = .int .i64 a ∧ sl G' 1 = .int .i64 b ∧ sl G' 2 = .int .i64 c ∧ sl G' 7 = .int .i64 (pubV a b) ∧ sl G' 8 = .int .i64 (errV a b)) ?_ ?_
  · unfold pubV errV
    by_cases h : 0 ≤ a ∧ a < 64 ∧ 0 ≤ b ∧ b < 4
    · simp [s0, s1, s2, h, ex, callPub]
    · have h' : (0 ≤ a ∧ a < 64 ∧ 0 ≤ b ∧ b < 4) = False := by simpa using h
      simp [s0, s1, s2, h', ex, callPub]
  clear s0 s1 s2
  rintro F S1 ⟨rfl, s0, s1, s2, s7, s8⟩
  repeat refine s_seq ?_
  refine s_reg (fun G' T' => T' = S1 ∧ sl G' 0 = .int .i64 a ∧ sl G' 1 = .int .i64 b ∧ sl G' 2 = .int .i64 c ∧ sl G' 7 = .int .i64 (pubV a b) ∧ sl G' 8 = .int .i64 (errV a b) ∧ sl G' 9 = .bool (may a b)) ?_ ?_
  · unfold may
    by_cases h1 : 0 ≤ a
    · by_cases h2 : a < 64
      · by_cases h3 : 0 ≤ b
        · by_cases h4 : b < 4 <;> simp [s0, s1, s2, s7, s8, h1, h2, h3, h4]
        · simp [s0, s1, s2, s7, s8, h1, h2, h3]
      · simp [s0, s1, s2, s7, s8, h1, h2]
    · simp [s0, s1, s2, s7, s8, h1]
  clear s0 s1 s2 s7 s8
  rintro F S ⟨rfl, s0, s1, s2, s7, s8, s9⟩
  repeat refine s_seq ?_
  have hc : (0 ≤ c ∧ c < 256) ∨ (c < 0 ∧ (0 ≤ c ∧ c < 256) = False) ∨ (¬ c < 0 ∧ 256 ≤ c ∧ (0 ≤ c ∧ c < 256) = False) := by
    by_cases h1 : c < 0
    · exact .inr (.inl ⟨h1, by simp; omega⟩)
    · by_cases h2 : 256 ≤ c
      · exact .inr (.inr ⟨h1, h2, by simp; omega⟩)
      · exact .inl ⟨by omega, by omega⟩
  unfold pubV at s7
  unfold errV at s8
  unfold may at s9
  by_cases h : 0 ≤ a ∧ a < 64 ∧ 0 ≤ b ∧ b < 4
  · have e1 : 4 * a = a * 4 := Int.mul_comm _ _
    have w1 : IntKind.i64.wrap (a * 4) = a * 4 := IntWalk.i64_in _ (by omega)
    have w2 : IntKind.i64.wrap (a * 4 + b) = a * 4 + b := IntWalk.i64_in _ (by omega)
    have e2 : (0 ≤ a * 4 + b ∧ a * 4 + b < 256) = True := by simp; omega
    have e3 : (a * 4 + b) / 4 = a := by omega
    have e4 : (a * 4 + b) % 4 = b := by omega
    simp [h] at s7 s8 s9
    rcases hc with ⟨c1, c2⟩ | ⟨c1, c2⟩ | ⟨c1, c2, c3⟩
    · obtain ⟨k1, k2⟩ := tail_e c c1 c2
      simp [s0, s1, s2, s7, s8, s9, und4, e1, w1, w2, e2, e3, e4, c1, c2, k1, k2, ex, callAwake, callPub, callHome]
    · simp [s0, s1, s2, s7, s8, s9, und4, e1, w1, w2, e2, e3, e4, c1, c2, ex, callAwake, callPub, callHome]
    · simp [s0, s1, s2, s7, s8, s9, und4, e1, w1, w2, e2, e3, e4, c1, c2, c3, ex, callAwake, callPub, callHome]
  · have e0 : (0 ≤ a ∧ a < 64 ∧ 0 ≤ b ∧ b < 4) = False := by simpa using h
    simp [e0] at s7 s8 s9
    rcases hc with ⟨c1, c2⟩ | ⟨c1, c2⟩ | ⟨c1, c2, c3⟩
    · obtain ⟨k1, k2⟩ := tail_e c c1 c2
      simp [s0, s1, s2, s7, s8, s9, und4, c1, c2, k1, k2, ex, callAwake, callPub, callHome]
    · simp [s0, s1, s2, s7, s8, s9, und4, c1, c2, ex, callAwake, callPub, callHome]
    · simp [s0, s1, s2, s7, s8, s9, und4, c1, c2, c3, ex, callAwake, callPub, callHome]

theorem walk (a0 a1 a2 : Int) (w : World) : Calls Try.prog 6 #[.int .i64 a0, .int .i64 a1, .int .i64 a2] w fun e w' => e = .returned (.bool true) ∧ Below w.heap.size w w' := by
  refine law_flat (A := A1) (readyOf A1 rfl rfl) (fun Λ x hx => ?_) rfl (vals := [.int .i64 a0, .int .i64 a1, .int .i64 a2]) (fun ρ => ?_) (law a0 a1 a2 _) w
  · simp only [A1, List.mem_cons, List.not_mem_nil, or_false] at hx
    rcases hx with rfl | rfl | rfl
    · exact boolQ_ok Try.func8 (by kernel_rfl) awake
    · exact pub_ok
    · exact home_ok
  · simp [LRel, VRel]

/-! ### The row's step -/
set_option maxRecDepth 100000 in
theorem lifted (os : Os) (started : os.Started) (H : Type) (enc : TypeId × Value → H) :
    ReturnsInHanded {} Try.checked os 6 .any (Rows.treePubsSpec.pre6 enc Try.prog Try.f6 Rows.treePubsRow.domain false) (Rows.treePubsSpec.post enc Try.prog Try.f6 false true false false) := by
  refine returnsInHanded_of_change (C := Try.checked) own started (by kernel_rfl) Try.func6
    (ChangeSpec.witness6 (enc := enc) (C := Try.checked) false ⟨#[], #[.int .i64 0, .int .i64 0, .int .i64 0], []⟩ 8 (by kernel_rfl) (by kernel_rfl) (by kernel_rfl) (by kernel_rfl)) ?_
  intro W base args ds gs before hval0 hW hcnd _
  have hval : ∀ (j : Nat) t v, Try.f6.params[j]? = some t → args[j]? = some v → Value.okWide Try.prog W .any base t v := hval0
  have hW' := hW
  obtain ⟨p, q, hA0, hV, rfl, hfz, hnd⟩ := hW
  have hA : DataW.TrodAll enc Try.prog W 0 (fun _ => true) true Try.f6.params.toList args.toList ds p := hA0
  rw [Try.params6] at hA hval
  obtain ⟨v0, vs0, d0, ds0, p0, q0, hargs, rfl, rfl, h0, r0⟩ := trodAll_cons hA
  obtain ⟨v1, vs1, d1, ds1, p1, q1, rfl, rfl, rfl, h1, r1⟩ := trodAll_cons r0
  obtain ⟨v2, vs2, d2, ds2, p2, q2, rfl, rfl, rfl, h2, r2⟩ := trodAll_cons r1
  obtain ⟨rfl, rfl, rfl⟩ := trodAll_nil r2
  obtain rfl : args = #[v0, v1, v2] := by cases args; simp_all
  obtain ⟨rfl, rfl⟩ := trodVars_none hV
  obtain ⟨a0, rfl, rfl, rfl, w0⟩ := open_int Try.underlying3 (hval 0 3 v0 rfl rfl) h0
  obtain ⟨a1, rfl, rfl, rfl, w1⟩ := open_int Try.underlying3 (hval 1 3 v1 rfl rfl) h1
  obtain ⟨a2, rfl, rfl, rfl, w2⟩ := open_int Try.underlying3 (hval 2 3 v2 rfl rfl) h2
  clear hA0 hval0
  simp only [List.append_nil] at hW'
  refine (walk a0 a1 a2 W).mono fun e W' ⟨he, hb⟩ => ?_
  subst he
  exact ⟨_, rfl, _, _, _, _, _, _, hW', (trodAll_cons_mk (shut_bool Try.underlying4 _) trodAll_mk0), (trodAll_cons_mk (shut_int Try.underlying3 w0) (trodAll_cons_mk (shut_int Try.underlying3 w1) (trodAll_cons_mk (shut_int Try.underlying3 w2) trodAll_mk0))), rfl, hb.frame _, fun h => by cases h⟩

theorem over : Rows.treePubsRow.holds Try.pinned (OpenSpec.ofChange Rows.treePubsSpec) :=
  OpenClaim.holds_of_wide 6 Try.f6 rfl rfl rfl rfl rfl rfl rfl ⟨rfl, rfl, rfl, rfl, rfl⟩ rfl rfl rfl rfl rfl (by kernel_rfl) Try.func6 (by kernel_rfl)
    (of_decide_eq_true (by kernel_rfl)) (by unfold Func.isWrapper; first | (rw [if_pos (by decide +kernel)]; kernel_rfl) | (rw [if_neg (by decide +kernel)]; exact ⟨rfl, rfl⟩))
    (fun os started H enc _ => lifted os started H enc)

theorem proved : Rows.TreePubsSaid :=
  over
end Go.Proofs.Ytpjebmdeaieniaa.treePubs
