/-
  'ValueBack': the law as it runs, and the row's step.
-/
import Derived.Test.YtpejppacnecbfaaDoorPartC
import Derived.Test.YtpejppacnecbfaaDoorCards
import Derived.Test.YtpejppacnecbfaaDoorTie
import Derived.SevenTiedAt
namespace Go.Proofs.YtpejppacnecbfaaDoor.valueBack
open Go Go.Am Go.ChangeShapes Go.WideShapes Go.ChangeAt Go.RowKit Go.Proofs.YtpejppacnecbfaaDoor.val
set_option linter.unusedVariables false

theorem walk (k0 n0 : Int) (s0 : ByteArray) (b0 : Bool) (s1 : ByteArray) (hn : -9223372036854775808 ≤ n0 ∧ n0 < 9223372036854775808) (hs : s1.data.toList.length < 140737488355328) (W : World) (hL : laidMet Tryd.prog laid.L W) :
    Calls Tryd.prog 5 #[.agg #[.int .i64 k0, .int .i64 n0, .string s0, .bool b0], .string s1] W fun e w' => e = .returned (.bool true) ∧ Below W.heap.size W w' := by
  refine law_at (laid.globs_of hL) (vals := [.agg [.int .i64 k0, .int .i64 n0, .str (nums s0), .bool b0], .str (nums s1)]) (fun ρ => ?_) (law5 (S := ⟨.leaf, 0⟩) ⟨k0, n0, nums s0, b0⟩ ⟨nums_lt s0, hn.1, hn.2⟩ (nums_lt s1) (by rw [nums_len]; exact hs))
  exact LRel.cons (rel23 ρ _ _ _ _) (LRel.cons (rel9 ρ _) (by simp [LRel]))

set_option maxRecDepth 100000 in
theorem lifted (os : Os) (started : os.Started) (H : Type) (enc : TypeId × Value → H) :
    ReturnsInHanded {} Tryd.checked os 5 .any (fun w args => (Rows.valueBackSpec.pre enc Tryd.prog Tryd.f5 [] false w args ∧ laidMetH Tryd.prog laid.L w) ∧ sizedMet enc Tryd.prog Tryd.f5 (OpenSpec.ofChange Rows.valueBackSpec) false w args)
      (Rows.valueBackSpec.post enc Tryd.prog Tryd.f5 false true false false) := by
  refine returnsInHanded_of_change_and (C := Tryd.checked) (X := fun w _ => laidMetH Tryd.prog laid.L w) (fun _ _ _ hh h => h.of_heap hh) laid.own started (by kernel_rfl) Tryd.func5
    (ChangeSpec.witness_at (enc := enc) (C := Tryd.checked) (os := os) (X := fun w _ => laidMetH Tryd.prog laid.L w) false (laid.laidWorld os) #[.agg #[.int .i64 0, .int .i64 0, .string ⟨#[]⟩, .bool false], .string ⟨#[]⟩] 8 rfl (by kernel_rfl) (by kernel_rfl) (by kernel_rfl) (by kernel_rfl) (by kernel_rfl) (laid.laidWorld_met os _)) ?_
  intro W base args ds gs before hval0 hW _ hsz hL _
  have hval : ∀ (j : Nat) t v, Tryd.f5.params[j]? = some t → args[j]? = some v → Value.okWide Tryd.prog W .any base t v := hval0
  have hW' := hW
  obtain ⟨p, q, hA0, hV0, rfl, hfz, hnd⟩ := hW
  have hA : DataW.TrodAll enc Tryd.prog W 0 (fun _ => true) true Tryd.f5.params.toList args.toList ds p := hA0
  have hp : Tryd.checked.prog = Tryd.prog := by kernel_rfl
  rw [Tryd.params5] at hA hval hsz
  obtain ⟨v0, vs0, d0, ds0, p0, q0, hargs, rfl, rfl, h0, r0⟩ := trodAll_cons hA
  obtain ⟨v1, vs1, d1, ds1, p1, q1, rfl, rfl, rfl, h1, r1⟩ := trodAll_cons r0
  obtain ⟨rfl, rfl, rfl⟩ := trodAll_nil r1
  obtain rfl : args = #[v0, v1] := by cases args; simp_all
  obtain ⟨rfl, rfl⟩ := trodVars_none hV0
  obtain ⟨k0, n0, s0, b0, rfl, rfl, hn, m0⟩ := open23 (hval 0 23 v0 rfl rfl) h0
  obtain ⟨s1, rfl, rfl, rfl, hs1⟩ := Go.ChangeMaps.open_string Tryd.underlying9 (hval 1 9 v1 rfl rfl) h1
  have hlen : s1.data.toList.length < 140737488355328 := by
    have := sized_string hsz (j := 1) (t := 9) (bytes := s1.data.toList) rfl rfl
    have hr : reachBytes < 2 ^ 47 := reachBytes_lt
    omega
  clear hA0 hval0 hsz
  simp only [List.append_nil] at hW'
  refine (walk k0 n0 s0 b0 s1 hn hlen W hL).mono fun e W' ⟨he, hb⟩ => ?_
  subst he
  exact ⟨_, rfl, _, _, _, _, _, _, hW', (trodAll_cons_mk (shut_bool Tryd.underlying4 _) trodAll_mk0), (trodAll_cons_mk (m0 _ _ _ _) (trodAll_cons_mk ⟨1, ts Tryd.underlying9 hs1⟩ trodAll_mk0)), rfl, hb.frame _, fun h => by cases h⟩

theorem over : Rows.ValueBackSaid :=
  OpenClaim.holds_of_wide 5 Tryd.f5 rfl rfl rfl rfl rfl rfl rfl ⟨rfl, rfl, rfl, rfl, rfl⟩ rfl rfl rfl rfl rfl (by kernel_rfl) Tryd.func5 (by kernel_rfl)
    (of_decide_eq_true (by kernel_rfl)) (by unfold Func.isWrapper; first | (rw [if_pos (by decide +kernel)]; kernel_rfl) | (rw [if_neg (by decide +kernel)]; exact ⟨rfl, rfl⟩))
    (fun os started H enc _ => lifted os started H enc)

theorem proved : Rows.ValueBackCardSaid :=
  Claim7.holds_tied_plain_at .later [] [.data, .data, .data, .sentinel, .sentinel] true _ true
    over (fun _ h => by cases h) (by kernel_rfl) (fun _ h => by cases h) valueBack_row_tie rfl ⟨rfl, rfl⟩ (by kernel_rfl) rfl
    (fun f fn hf hfn => by
      obtain rfl : f = 5 := Option.some.inj ((show Tryd.prog.funcNamed Rows.valueBackRow.func = some 5 by kernel_rfl).symm.trans hf) |>.symm
      obtain rfl : fn = Tryd.f5 := (Option.some.inj (Tryd.func5.symm.trans hfn)).symm
      refine ⟨by kernel_rfl, fun j t ht => ?_⟩
      have hall : (Tryd.f5.params.toList.all fun t => !Tryd.prog.wantsStandIn t) = true := by kernel_rfl
      have hm : t ∈ Tryd.f5.params.toList := by
        rw [← Array.getElem?_toList] at ht
        exact List.mem_of_getElem? ht
      have hb : Tryd.prog.wantsStandIn t = false := by simpa using List.all_eq_true.1 hall t hm
      exact hb)
    (by kernel_rfl)
end Go.Proofs.YtpejppacnecbfaaDoor.valueBack
