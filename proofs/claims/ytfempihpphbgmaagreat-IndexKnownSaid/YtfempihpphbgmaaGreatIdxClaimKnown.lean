/-
  'IndexKnown' takes no argument: the abstract machine runs it whole in the kernel.
-/
import Derived.Test.YtfempihpphbgmaaGreatIdxReady
import Derived.OpenShut
namespace Go.Proofs.YtfempihpphbgmaaGreat.indexKnown
open Go Go.Am Go.ChangeShapes Go.WideShapes Go.ChangeAt Go.RowKit Go.Proofs.YtfempihpphbgmaaGreat.ready
set_option linter.unusedVariables false

noncomputable def N1 : Am.Ask := { eqs := [50, 65], exts := [(57, .apart), (132, .cmpstr)], prims := [(14, boolQ true), (31, ins.q31), (34, ins.q34)], pures := [46] }
theorem ready1 : Am.Ready P N1 := ready _ (fun t h => by
  simp only [N1, List.mem_cons, List.not_mem_nil, or_false] at h
  exact h) (fun x h => by
  simp only [N1, List.mem_cons, List.not_mem_nil, or_false] at h
  exact h)
theorem prims1 (Λ : LB) : ∀ x, x ∈ N1.prims → PrimOk Λ Tryz.prog x.1 x.2 := by
  intro x hx
  simp only [N1, List.mem_cons, List.not_mem_nil, or_false] at hx
  rcases hx with rfl | rfl | rfl
  · exact Am.boolQ_ok Tryz.func14 rfl awake
  · exact ins.prim31 ready8
  · exact ins.prim34 ready8
theorem answer : true = Am.saysK Tryz.prog N1 1000000 7 true := by kernel_rfl
theorem walk (W : World) : Calls Tryz.prog 7 #[] W fun e w' => e = .returned (.bool true) ∧ Below W.heap.size W w' :=
  Am.call_fast0 ready1 prims1 rfl 1000000 7 true answer W

set_option maxRecDepth 100000 in
theorem lifted (os : Os) (started : os.Started) (H : Type) (enc : TypeId × Value → H) :
    ReturnsInHanded {} Tryz.checked os 7 .any (Rows.indexKnownSpec.pre6 enc Tryz.prog Tryz.f7 Rows.indexKnownRow.domain false) (Rows.indexKnownSpec.post enc Tryz.prog Tryz.f7 false true false false) := by
  refine returnsInHanded_of_change (C := Tryz.checked) own started (by kernel_rfl) Tryz.func7
    (ChangeSpec.witness6 (enc := enc) (C := Tryz.checked) false ⟨#[], #[], []⟩ 8 (by kernel_rfl) (by kernel_rfl) (by kernel_rfl) (by kernel_rfl)) ?_
  intro W base args ds gs before hval0 hW hcnd _
  have hW' := hW
  obtain ⟨p, q, hA0, hV, rfl, hfz, hnd⟩ := hW
  have hA : DataW.TrodAll enc Tryz.prog W 0 (fun _ => true) true Tryz.f7.params.toList args.toList ds p := hA0
  rw [Tryz.params7] at hA
  obtain ⟨rfl, rfl, rfl⟩ := trodAll_none hA
  obtain ⟨rfl, rfl⟩ := trodVars_none hV
  clear hA0 hval0
  simp only [List.append_nil] at hW'
  refine (walk W).mono fun e W' ⟨he, hb⟩ => ?_
  subst he
  exact ⟨_, rfl, [], [], _, [], [], [], hW', (trodAll_cons_mk (shut_bool Tryz.underlying4 _) trodAll_mk0), rfl, rfl, hb.frame _, fun h => by cases h⟩

theorem over : Rows.indexKnownRow.holds Tryz.pinned (OpenSpec.ofChange Rows.indexKnownSpec) :=
  OpenClaim.holds_of_wide 7 Tryz.f7 rfl rfl rfl rfl rfl rfl rfl ⟨rfl, rfl, rfl, rfl, rfl⟩ rfl rfl rfl rfl rfl (by kernel_rfl) Tryz.func7 (by kernel_rfl)
    (of_decide_eq_true (by kernel_rfl)) (by unfold Func.isWrapper; first | (rw [if_pos (by decide +kernel)]; kernel_rfl) | (rw [if_neg (by decide +kernel)]; exact ⟨rfl, rfl⟩))
    (fun os started H enc _ => lifted os started H enc)

theorem proved : Rows.IndexKnownSaid :=
  over
end Go.Proofs.YtfempihpphbgmaaGreat.indexKnown
