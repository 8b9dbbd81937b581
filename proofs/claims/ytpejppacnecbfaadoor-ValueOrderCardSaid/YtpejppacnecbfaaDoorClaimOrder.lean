/-
  'ValueOrder': the law as it runs, and the row's step.
-/
import Derived.Test.YtpejppacnecbfaaDoorArgs
import Derived.Test.YtpejppacnecbfaaDoorCards
import Derived.Test.YtpejppacnecbfaaDoorTie
import Derived.SevenTiedAt
namespace Go.Proofs.YtpejppacnecbfaaDoor.valueOrder
open Go Go.Am Go.ChangeShapes Go.WideShapes Go.ChangeAt Go.RowKit Go.Proofs.YtpejppacnecbfaaDoor.fns
set_option linter.unusedVariables false

theorem walk (k0 n0 : Int) (s0 : ByteArray) (b0 : Bool) (k1 n1 : Int) (s1 : ByteArray) (b1 : Bool) (k2 n2 : Int) (s2 : ByteArray) (b2 : Bool) (W : World) (hL : laidMet Tryd.prog laid.L W) : Calls Tryd.prog 6 #[.agg #[.int .i64 k0, .int .i64 n0, .string s0, .bool b0], .agg #[.int .i64 k1, .int .i64 n1, .string s1, .bool b1], .agg #[.int .i64 k2, .int .i64 n2, .string s2, .bool b2]] W fun e w' => e = .returned (.bool true) ∧ Below W.heap.size W w' := by
  refine law_at (laid.globs_of hL) (vals := [.agg [.int .i64 k0, .int .i64 n0, .str (nums s0), .bool b0], .agg [.int .i64 k1, .int .i64 n1, .str (nums s1), .bool b1], .agg [.int .i64 k2, .int .i64 n2, .str (nums s2), .bool b2]]) (fun ρ => ?_) (lawOrder k0 n0 (nums s0) b0 k1 n1 (nums s1) b1 k2 n2 (nums s2) b2 _)
  exact LRel.cons (rel23 ρ _ _ _ _) (LRel.cons (rel23 ρ _ _ _ _) (LRel.cons (rel23 ρ _ _ _ _) (by simp [LRel])))

set_option maxRecDepth 100000 in
theorem lifted (os : Os) (started : os.Started) (H : Type) (enc : TypeId × Value → H) :
    ReturnsInHanded {} Tryd.checked os 6 .any (fun w args => (Rows.valueOrderSpec.pre enc Tryd.prog Tryd.f6 [] false w args ∧ laidMetH Tryd.prog laid.L w) ∧ sizedMet enc Tryd.prog Tryd.f6 (OpenSpec.ofChange Rows.valueOrderSpec) false w args)
      (Rows.valueOrderSpec.post enc Tryd.prog Tryd.f6 false true false false) := by
  refine returnsInHanded_of_change_and (C := Tryd.checked) (X := fun w _ => laidMetH Tryd.prog laid.L w) (fun _ _ _ hh h => h.of_heap hh) laid.own started (by kernel_rfl) Tryd.func6
    (ChangeSpec.witness_at (enc := enc) (C := Tryd.checked) (os := os) (X := fun w _ => laidMetH Tryd.prog laid.L w) false (laid.laidWorld os) #[.agg #[.int .i64 0, .int .i64 0, .string ⟨#[]⟩, .bool false], .agg #[.int .i64 0, .int .i64 0, .string ⟨#[]⟩, .bool false], .agg #[.int .i64 0, .int .i64 0, .string ⟨#[]⟩, .bool false]] 8 rfl (by kernel_rfl) (by kernel_rfl) (by kernel_rfl) (by kernel_rfl) (by kernel_rfl) (laid.laidWorld_met os _)) ?_
  intro W base args ds gs before hval0 hW _ _ hL _
  have hval : ∀ (j : Nat) t v, Tryd.f6.params[j]? = some t → args[j]? = some v → Value.okWide Tryd.prog W .any base t v := hval0
  have hW' := hW
  obtain ⟨p, q, hA0, hV0, rfl, hfz, hnd⟩ := hW
  have hA : DataW.TrodAll enc Tryd.prog W 0 (fun _ => true) true Tryd.f6.params.toList args.toList ds p := hA0
  rw [Tryd.params6] at hA hval
  obtain ⟨v0, vs0, d0, ds0, p0, q0, hargs, rfl, rfl, h0, r0⟩ := trodAll_cons hA
  obtain ⟨v1, vs1, d1, ds1, p1, q1, rfl, rfl, rfl, h1, r1⟩ := trodAll_cons r0
  obtain ⟨v2, vs2, d2, ds2, p2, q2, rfl, rfl, rfl, h2, r2⟩ := trodAll_cons r1
  obtain ⟨rfl, rfl, rfl⟩ := trodAll_nil r2
  obtain rfl : args = #[v0, v1, v2] := by cases args; simp_all
  obtain ⟨rfl, rfl⟩ := trodVars_none hV0
  obtain ⟨k0, n0, s0, b0, rfl, rfl, m0⟩ := open23 (hval 0 23 v0 rfl rfl) h0
  obtain ⟨k1, n1, s1, b1, rfl, rfl, m1⟩ := open23 (hval 1 23 v1 rfl rfl) h1
  obtain ⟨k2, n2, s2, b2, rfl, rfl, m2⟩ := open23 (hval 2 23 v2 rfl rfl) h2
  clear hA0 hval0
  simp only [List.append_nil] at hW'
  refine (walk k0 n0 s0 b0 k1 n1 s1 b1 k2 n2 s2 b2 W hL).mono fun e W' ⟨he, hb⟩ => ?_
  subst he
  exact ⟨_, rfl, _, _, _, _, _, _, hW', (trodAll_cons_mk (shut_bool Tryd.underlying4 _) trodAll_mk0), (trodAll_cons_mk (m0 _ _ _ _) (trodAll_cons_mk (m1 _ _ _ _) (trodAll_cons_mk (m2 _ _ _ _) trodAll_mk0))), rfl, hb.frame _, fun h => by cases h⟩

theorem over : Rows.ValueOrderSaid :=
  OpenClaim.holds_of_wide 6 Tryd.f6 rfl rfl rfl rfl rfl rfl rfl ⟨rfl, rfl, rfl, rfl, rfl⟩ rfl rfl rfl rfl rfl (by kernel_rfl) Tryd.func6 (by kernel_rfl)
    (of_decide_eq_true (by kernel_rfl)) (by unfold Func.isWrapper; first | (rw [if_pos (by decide +kernel)]; kernel_rfl) | (rw [if_neg (by decide +kernel)]; exact ⟨rfl, rfl⟩))
    (fun os started H enc _ => lifted os started H enc)

theorem proved : Rows.ValueOrderCardSaid :=
  Claim7.holds_tied_plain_at .later [] [.data, .data, .data, .sentinel, .sentinel] true _ true
    over (fun _ h => by cases h) (by kernel_rfl) (fun _ h => by cases h) valueOrder_row_tie rfl ⟨rfl, rfl⟩ (by kernel_rfl) rfl
    (fun f fn hf hfn => by
      obtain rfl : f = 6 := Option.some.inj ((show Tryd.prog.funcNamed Rows.valueOrderRow.func = some 6 by kernel_rfl).symm.trans hf) |>.symm
      obtain rfl : fn = Tryd.f6 := (Option.some.inj (Tryd.func6.symm.trans hfn)).symm
      refine ⟨by kernel_rfl, fun j t ht => ?_⟩
      have hall : (Tryd.f6.params.toList.all fun t => !Tryd.prog.wantsStandIn t) = true := by kernel_rfl
      have hm : t ∈ Tryd.f6.params.toList := by
        rw [← Array.getElem?_toList] at ht
        exact List.mem_of_getElem? ht
      have hb : Tryd.prog.wantsStandIn t = false := by simpa using List.all_eq_true.1 hall t hm
      exact hb)
    (by kernel_rfl)
end Go.Proofs.YtpejppacnecbfaaDoor.valueOrder
