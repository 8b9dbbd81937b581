/-
  The abstract machine: a function whose answer is known becomes one that the machine need not enter.
-/
import Derived.Test.YtfempihpphbgmaaGreatAmRules
namespace Go.Am
open Go Go.RowKit
structure Sub (S T : AS) : Prop where
 h : ∀ id, id < S.next → T.h.get id = S.h.get id
 next : S.next ≤ T.next
theorem Sub.refl (S : AS) : Sub S S := ⟨fun _ _ => rfl, Nat.le_refl _⟩
theorem Sub.trans {A B C : AS} (h : Sub A B) (k : Sub B C) : Sub A C := ⟨fun id hi => (k.h id (Nat.lt_of_lt_of_le hi h.next)).trans (h.h id hi), Nat.le_trans h.next k.next⟩
theorem Sub.set {A S : AS} (h : Sub A S) (id : Nat) (o : bW) (hi : A.next ≤ id) (n : Nat) (hn : S.next ≤ n) : Sub A ⟨S.h.set id o, n⟩ :=
 ⟨fun i aL => by show (S.h.set id o).get i = _; rw [ae _ _ (by omega)]; exact h.h i aL, Nat.le_trans h.next hn⟩
theorem R.drop {Λ : LB} {ρ : aF} {S T : AS} {w : World} (h : R Λ ρ T w) (hs : Sub S T) (hd : ∀ id o, S.h.get id = some o → id < S.next)
  (ho : ∀ id o, S.h.get id = some o → ot (fun i g => if i < S.next then ρ i g else none) w id o) : R Λ (fun i g => if i < S.next then ρ i g else none) S w := by
 have hT : ∀ id o, S.h.get id = some o → T.h.get id = some o := fun id o hi => by rw [hs.h id (hd id o hi)]; exact hi
 refine ⟨ho, hd, fun id g hi => by simp only [if_neg (Nat.not_lt.2 hi)], fun id c l t f ty hi g hg => ?_, fun id o g pl hi hp => ?_, fun i j o oj g gj pl nE fW hi hj hp nd => ?_, h.start, fun b hb => ?_⟩
 ·simp only [if_pos (hd id _ hi)]; exact h.jP id c l t f ty (hT id _ hi) g hg
 ·simp only [if_pos (hd id _ hi)] at hp; exact h.lt id o g pl (hT id _ hi) hp
 ·simp only [if_pos (hd i _ hi)] at hp
  simp only [if_pos (hd j _ hj)] at nd;exact h.apart i j o oj g gj pl nE fW (hT i _ hi) (hT j _ hj) hp nd
 ·obtain ⟨d1, d2, d3⟩ := h.base b hb
  refine ⟨d1, d2, ?_⟩
  rintro ⟨i, o, g, pl, hi, hz, hp, rfl⟩
  simp only [if_pos (hd i _ hi)] at hp;exact d3 ⟨i, o, g, pl, hT i _ hi, hz, hp, rfl⟩
end Go.Am
