/-
  The abstract machine: a function whose answer is known becomes one that the machine need not enter.
-/
import Derived.Test.YtfempihpphbgmaaGreatAmRules
namespace Go.Am
open Go Go.RowKit

/-- T has what S has, and more behind it. -/
structure Sub (S T : AS) : Prop where
  h : ∀ id, id < S.next → T.h.get id = S.h.get id
  next : S.next ≤ T.next
theorem Sub.refl (S : AS) : Sub S S := ⟨fun _ _ => rfl, Nat.le_refl _⟩
theorem Sub.trans {A B C : AS} (h : Sub A B) (k : Sub B C) : Sub A C := ⟨fun id hi => (k.h id (Nat.lt_of_lt_of_le hi h.next)).trans (h.h id hi), Nat.le_trans h.next k.next⟩
/-- S with a block more. -/
theorem Sub.set {A S : AS} (h : Sub A S) (id : Nat) (o : AObj) (hi : A.next ≤ id) (n : Nat) (hn : S.next ≤ n) : Sub A ⟨S.h.set id o, n⟩ :=
  ⟨fun i hlt => by show (S.h.set id o).get i = _; rw [get_set_ne _ _ (by omega)]; exact h.h i hlt, Nat.le_trans h.next hn⟩

/-- What nobody speaks of any more is let go. -/
theorem R.drop {Λ : LB} {ρ : Rho} {S T : AS} {w : World} (h : R Λ ρ T w) (hs : Sub S T) (hd : ∀ id o, S.h.get id = some o → id < S.next)
    (ho : ∀ id o, S.h.get id = some o → ORel (fun i g => if i < S.next then ρ i g else none) w id o) : R Λ (fun i g => if i < S.next then ρ i g else none) S w := by
  have hT : ∀ id o, S.h.get id = some o → T.h.get id = some o := fun id o hi => by rw [hs.h id (hd id o hi)]; exact hi
  refine ⟨ho, hd, fun id g hi => by simp only [if_neg (Nat.not_lt.2 hi)], fun id c l t f ty hi g hg => ?_, fun id o g pl hi hp => ?_, fun i j o oj g gj pl plj hij hi hj hp hpj => ?_, h.start, fun b hb => ?_⟩
  · simp only [if_pos (hd id _ hi)]; exact h.topg id c l t f ty (hT id _ hi) g hg
  · simp only [if_pos (hd id _ hi)] at hp; exact h.lt id o g pl (hT id _ hi) hp
  · simp only [if_pos (hd i _ hi)] at hp
    simp only [if_pos (hd j _ hj)] at hpj
    exact h.apart i j o oj g gj pl plj hij (hT i _ hi) (hT j _ hj) hp hpj
  · obtain ⟨d1, d2, d3⟩ := h.base b hb
    refine ⟨d1, d2, ?_⟩
    rintro ⟨i, o, g, pl, hi, hz, hp, rfl⟩
    simp only [if_pos (hd i _ hi)] at hp
    exact d3 ⟨i, o, g, pl, hT i _ hi, hz, hp, rfl⟩

/-- A call that gives a value without addresses, and leaves what was as it was. -/
theorem prim_flat {Λ : LB} {P : Program} {A : Ask} (hr : Ready P A) (hp : ∀ x, x ∈ A.prims → PrimOk Λ P x.1 x.2) (hg : ∀ x, x ∈ A.globs → GlobOk Λ.w Λ.B x.1 x.2) {f : FuncId} {q : List AV → AS → Option (AV × AS)} (n : Nat)
    (h : ∀ as S v S', q as S = some (v, S') → S' = S ∧ flatF n v = true ∧ CallW (mkCx P A) f as S fun v' T => v' = v ∧ Sub S T) : PrimOk Λ P f q := by
  intro ρ as S w args v S' hR hl hq
  obtain ⟨rfl, hf, hc⟩ := h as S v S' hq
  obtain ⟨k1, k2⟩ := calls_of hr hp hg hR hl hc
  refine ⟨k1, k2.mono ?_⟩
  rintro e w' ⟨x, v', T, ρ', rfl, h1, ⟨rfl, h2⟩, h3, h4⟩
  have hx : Ext ρ (fun i g => if i < S'.next then ρ' i g else none) := by
    intro i g pl hpl
    have hi : i < S'.next := by
      rcases Nat.lt_or_ge i S'.next with hh | hh
      · exact hh
      · rw [hR.fresh i g hh] at hpl; cases hpl
    simp only [if_pos hi]
    exact h4.ext i g pl hpl
  have hO : ∀ id o, S'.h.get id = some o → ORel (fun i g => if i < S'.next then ρ' i g else none) w' id o := by
    intro id o ho
    have hT : T.h.get id = some o := by rw [h2.h id (hR.dom id o ho)]; exact ho
    exact ORel.restrict hx h4.ext (fun g => by simp only [if_pos (hR.dom id o ho)]) (hR.objs id o ho) (h3.objs id o hT)
  refine ⟨x, _, rfl, flat_rel n v' x ρ' _ hf h1, h3.drop h2 hR.dom hO, ⟨hx, h4.os, h4.tape, h4.output, h4.size, h4.keep, fun b hb => ?_, fun b hb => ?_, Nat.le_refl _, fun id g hi hn => ⟨by simp only [if_pos hi]; exact (h4.resv id g hi hn).1, hn⟩⟩⟩
  · obtain ⟨i, o, g, pl, hi, hp', rfl⟩ := hb
    simp only [if_pos (hR.dom i o hi)] at hp'
    exact h4.mine _ ⟨i, o, g, pl, by rw [h2.h i (hR.dom i o hi)]; exact hi, hp', rfl⟩
  · obtain ⟨i, o, g, pl, hi, hz, hp', rfl⟩ := hb
    simp only [if_pos (hR.dom i o hi)] at hp'
    exact h4.wrt _ ⟨i, o, g, pl, by rw [h2.h i (hR.dom i o hi)]; exact hi, hz, hp', rfl⟩

/-- From nothing: what was there stays. -/
theorem below_of {w w' : World} {ρ' : Rho} {S' : AS} (h : Kp (fun _ _ => none) ⟨.leaf, 0⟩ w ρ' S' w') : Below w.heap.size w w' :=
  ⟨h.os, h.tape, h.output, h.size, fun k hk => h.keep k hk (by rintro ⟨i, o, g, pl, ho, _⟩; cases ho)⟩
/-- A law over arguments without addresses. -/
theorem law_flat {P : Program} {A : Ask} (hr : Ready P A) (hp : ∀ Λ : LB, ∀ x, x ∈ A.prims → PrimOk Λ P x.1 x.2) (hg : A.globs = []) {f : FuncId} {vals : List AV} {args : Array Value} (hl : ∀ ρ, LRel ρ vals args.toList)
    (hc : CallW (mkCx P A) f vals ⟨.leaf, 0⟩ fun v _ => v = .bool true) (w : World) : Calls P f args w fun e w' => e = .returned (.bool true) ∧ Below w.heap.size w w' := by
  have hR := empty_R (Λ := ⟨w, fun _ => False⟩) w (Nat.le_refl _) (fun _ hb => hb.elim)
  refine (calls_of hr (hp ⟨w, fun _ => False⟩) (by rw [hg]; intro x hx; cases hx) hR (hl _) hc).2.mono ?_
  rintro e w' ⟨x, v, S', ρ', rfl, h1, rfl, _, h4⟩
  simp only [VRel] at h1
  exact ⟨by rw [h1], below_of h4⟩
end Go.Am
