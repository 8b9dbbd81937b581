/-
  The abstract machine: what lies below stays; a closed call that answers one bool, as one that is known.
-/
import Derived.Test.YtfempihpphbgmaaGreatAmFast
namespace Go.Am
open Go Go.RowKit
theorem R.below {Λ : LB} {ρ : Rho} {S : AS} {w w' : World} (h : R Λ ρ S w) (hb : Below w.heap.size w w') : R Λ ρ S w' ∧ Kp ρ S w ρ S w' := by
 have hs : ∀ b, b < w.heap.size → w'.heap[b]? = w.heap[b]? := fun b hb2 => hb.block b hb2
 refine ⟨⟨fun id o ho => (h.objs id o ho).keep (Ext.refl _) fun g pl hp => hs _ (h.lt id o g pl ho hp), h.dom, h.fresh, h.topg, fun id o g pl ho hp => Nat.lt_of_lt_of_le (h.lt id o g pl ho hp) hb.size, h.apart, Nat.le_trans h.start hb.size, fun b hB => ?_⟩,
  ⟨Ext.refl _, hb.os, hb.tape, hb.output, hb.size, fun b hb' _ => hs b hb', fun _ h => .inl h, fun _ h => .inl h, Nat.le_refl _, fun _ _ _ h => ⟨rfl, h⟩⟩⟩
 obtain ⟨d1, d2, d3⟩ := h.base b hB
 exact ⟨d1, (hs b (Nat.lt_of_lt_of_le d1 h.start)).trans d2, d3⟩
noncomputable def boolQ (b : Bool) (as : List AV) (S : AS) : Option (AV × AS) := match as with | [] => some (.bool b, S) | _ => none
theorem boolQ_ok {Λ : LB} {P : Program} {f : FuncId} {fn : Func} {b : Bool} (hf : P.funcs[f]? = some fn) (hb : fn.body.isSome = true)
  (h : ∀ w, Calls P f #[] w fun e w' => e = .returned (.bool b) ∧ Below w.heap.size w w') : PrimOk Λ P f (boolQ b) := by
 intro ρ as S w args v S' hR hl hq
 cases as with
 | cons x xs => cases hq
 | nil =>
  cases hq
  simp only [LRel] at hl
  have : args = #[] := Array.ext' (by simpa using hl)
  subst this
  refine ⟨⟨fn, hf, hb⟩, (h w).mono fun e w' he => ?_⟩
  obtain ⟨h1, h2⟩ := hR.below he.2
  exact ⟨.bool b, ρ, he.1, by simp [VRel], h1, h2⟩
theorem call_fast {Λ : LB} {P : Program} {A : Ask} (h : Ready P A) (hp : ∀ x, x ∈ A.prims → PrimOk Λ P x.1 x.2) (hg : ∀ x, x ∈ A.globs → GlobOk Λ.w Λ.B x.1 x.2) (n : Nat) (f : FuncId) (b : Bool)
  (hs : true = saysK P A n f b) (w : World) (hz : Λ.w.heap.size ≤ w.heap.size) (hb : ∀ b, Λ.B b → b < Λ.w.heap.size ∧ w.heap[b]? = Λ.w.heap[b]?) :
  Calls P f #[] w fun e w' => e = .returned (.bool b) ∧ Below w.heap.size w w' :=
 call_bool_at h hp hg n f b (hs.trans (saysK_eq P A n f b)) w hz hb
theorem call_fast0 {P : Program} {A : Ask} (h : Ready P A) (hp : ∀ Λ : LB, ∀ x, x ∈ A.prims → PrimOk Λ P x.1 x.2) (hg : A.globs = []) (n : Nat) (f : FuncId) (b : Bool) (hs : true = saysK P A n f b) (w : World) :
  Calls P f #[] w fun e w' => e = .returned (.bool b) ∧ Below w.heap.size w w' :=
 call_fast (Λ := ⟨w, fun _ => False⟩) h (hp _) (by rw [hg]; intro x hx; cases hx) n f b hs w (Nat.le_refl _) (fun _ hb => hb.elim)
end Go.Am
