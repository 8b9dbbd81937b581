/-
  The abstract machine: a function whose answer is known becomes one that the machine need not enter.
-/
import Derived.Test.YtpejppacnecbfaaDoorAmRules
namespace Go.Am
open Go Go.RowKit

/-- Values that hold no address. -/
def flatL (f : AV → Bool) : List AV → Bool
  | [] => true
  | x :: l => f x && flatL f l
def flatF : Nat → AV → Bool
  | 0, _ => false
  | n + 1, v => match v with
    | .bool _ => true | .int .. => true | .str _ => true | .nilp => true | .nils => true | .nilm => true | .nilf => true | .niface => true | .glob .. => true
    | .iface _ v => flatF n v
    | .agg cs => flatL (flatF n) cs
    | .tuple vs => flatL (flatF n) vs
    | _ => false
theorem flat_rel : ∀ (n : Nat) (v : AV) (x : Value) (ρ ρ' : Rho), flatF n v = true → VRel ρ v x → VRel ρ' v x := by
  intro n
  induction n with
  | zero => intro v x ρ ρ' h; cases h
  | succ n ih =>
    intro v x ρ ρ' h hv
    have lst : ∀ (l : List AV) (ys : List Value), flatL (flatF n) l = true → LRel ρ l ys → LRel ρ' l ys := by
      intro l
      induction l with
      | nil => intro ys _ h; simpa [LRel] using h
      | cons a l ihl =>
        intro ys hf h
        simp only [flatL, Bool.and_eq_true] at hf
        simp only [LRel] at h
        obtain ⟨y, t, rfl, p, q⟩ := h
        exact LRel.cons (ih a y ρ ρ' hf.1 p) (ihl t hf.2 q)
    cases v <;> simp only [flatF, Bool.false_eq_true] at h <;> (try (simp only [VRel] at hv ⊢; exact hv))
    · simp only [VRel] at hv ⊢
      obtain ⟨y, e, p⟩ := hv
      exact ⟨y, e, ih _ _ _ _ h p⟩
    · simp only [VRel] at hv ⊢
      obtain ⟨a, e, p, q⟩ := hv
      exact ⟨a, e, lst _ _ h p, q⟩
    · simp only [VRel] at hv ⊢
      obtain ⟨a, e, p⟩ := hv
      exact ⟨a, e, lst _ _ h p⟩

mutual
/-- What one knew of a value's parts suffices. -/
theorem VRel.restrict {ρ ρ1 ρ' : Rho} (h1 : Ext ρ ρ1) (h2 : Ext ρ ρ') : ∀ (x : AV) (v0 v : Value), VRel ρ x v0 → VRel ρ' x v → VRel ρ1 x v
  | .top, _, _, _, _ => by simp [VRel]
  | .bool b, _, v, _, hv => by simpa [VRel] using hv
  | .int k n, _, v, _, hv => by simpa [VRel] using hv
  | .str s, _, v, _, hv => by simpa [VRel] using hv
  | .nilp, _, v, _, hv => by simpa [VRel] using hv
  | .ptr id g off lim, _, v, h0, hv => by
    simp only [VRel] at *
    obtain ⟨pl, a, b, c⟩ := h0
    obtain ⟨pl', a', b', c'⟩ := hv
    rw [h2 _ _ _ a] at a'; cases a'
    exact ⟨pl, h1 _ _ _ a, b', c'⟩
  | .glob g off, _, v, _, hv => by simpa [VRel] using hv
  | .nils, _, v, _, hv => by simpa [VRel] using hv
  | .slice id g off len lim sz cap, _, v, h0, hv => by
    simp only [VRel] at *
    obtain ⟨pl, c, a, _⟩ := h0
    obtain ⟨pl', c', a', rest⟩ := hv
    rw [h2 _ _ _ a] at a'; cases a'
    exact ⟨pl, c', h1 _ _ _ a, rest⟩
  | .nilm, _, v, _, hv => by simpa [VRel] using hv
  | .map id, _, v, h0, hv => by
    simp only [VRel] at *
    obtain ⟨pl, a, b⟩ := h0
    obtain ⟨pl', a', b'⟩ := hv
    rw [h2 _ _ _ a] at a'; cases a'
    exact ⟨pl, h1 _ _ _ a, b'⟩
  | .func fn f c, _, v, h0, hv => by
    simp only [VRel] at *
    obtain ⟨a, b, e, p, q⟩ := h0
    obtain ⟨a', b', e', p', q'⟩ := hv
    exact ⟨a', b', e', LRel.restrict h1 h2 f _ _ p p', LRel.restrict h1 h2 c _ _ q q'⟩
  | .nilf, _, v, _, hv => by simpa [VRel] using hv
  | .niface, _, v, _, hv => by simpa [VRel] using hv
  | .iface t x, _, v, h0, hv => by
    simp only [VRel] at *
    obtain ⟨y, e, p⟩ := h0
    obtain ⟨y', e', p'⟩ := hv
    exact ⟨y', e', VRel.restrict h1 h2 x _ _ p p'⟩
  | .agg cs, _, v, h0, hv => by
    simp only [VRel] at *
    obtain ⟨a, e, p, q⟩ := h0
    obtain ⟨a', e', p', q'⟩ := hv
    exact ⟨a', e', LRel.restrict h1 h2 cs _ _ p p', q'⟩
  | .tuple vs, _, v, h0, hv => by
    simp only [VRel] at *
    obtain ⟨a, e, p⟩ := h0
    obtain ⟨a', e', p'⟩ := hv
    exact ⟨a', e', LRel.restrict h1 h2 vs _ _ p p'⟩
theorem LRel.restrict {ρ ρ1 ρ' : Rho} (h1 : Ext ρ ρ1) (h2 : Ext ρ ρ') : ∀ (xs : List AV) (l0 l : List Value), LRel ρ xs l0 → LRel ρ' xs l → LRel ρ1 xs l
  | [], _, l, _, hl => by simpa [LRel] using hl
  | x :: xs, _, l, h0, hl => by
    simp only [LRel] at *
    obtain ⟨y, ys, e, p, q⟩ := h0
    obtain ⟨y', ys', e', p', q'⟩ := hl
    exact ⟨y', ys', e', VRel.restrict h1 h2 x _ _ p p', LRel.restrict h1 h2 xs _ _ q q'⟩
end

/-- T has what S has, and more behind it. -/
structure Sub (S T : AS) : Prop where
  h : ∀ id, id < S.next → T.h.get id = S.h.get id
  next : S.next ≤ T.next
theorem Sub.refl (S : AS) : Sub S S := ⟨fun _ _ => rfl, Nat.le_refl _⟩
theorem Sub.trans {A B C : AS} (h : Sub A B) (k : Sub B C) : Sub A C := ⟨fun id hi => (k.h id (Nat.lt_of_lt_of_le hi h.next)).trans (h.h id hi), Nat.le_trans h.next k.next⟩
/-- S with a block more. -/
theorem Sub.set {A S : AS} (h : Sub A S) (id : Nat) (o : AObj) (hi : A.next ≤ id) (n : Nat) (hn : S.next ≤ n) : Sub A ⟨S.h.set id o, n⟩ :=
  ⟨fun i hlt => by show (S.h.set id o).get i = _; rw [get_set_ne _ _ (by omega)]; exact h.h i hlt, Nat.le_trans h.next hn⟩

/-- What nobody speaks of any more is let go. -/
theorem R.drop {Λ : LB} {ρ : Rho} {S T : AS} {w : World} (h : R Λ ρ T w) (hs : Sub S T) (hd : ∀ id o, S.h.get id = some o → id < S.next)
    (ho : ∀ id o, S.h.get id = some o → ORel (fun i g => if i < S.next then ρ i g else none) w id o) : R Λ (fun i g => if i < S.next then ρ i g else none) S w := by
  have hT : ∀ id o, S.h.get id = some o → T.h.get id = some o := fun id o hi => by rw [hs.h id (hd id o hi)]; exact hi
  refine ⟨ho, hd, fun id g hi => by simp only [if_neg (Nat.not_lt.2 hi)], fun id c l t f ty hi g hg => ?_, fun id o g pl hi hp => ?_, fun i j o oj g gj pl plj hij hi hj hp hpj => ?_, h.start, fun b hb => ?_⟩
  · simp only [if_pos (hd id _ hi)]; exact h.topg id c l t f ty (hT id _ hi) g hg
  · simp only [if_pos (hd id _ hi)] at hp; exact h.lt id o g pl (hT id _ hi) hp
  · simp only [if_pos (hd i _ hi)] at hp
    simp only [if_pos (hd j _ hj)] at hpj
    exact h.apart i j o oj g gj pl plj hij (hT i _ hi) (hT j _ hj) hp hpj
  · obtain ⟨d1, d2, d3⟩ := h.base b hb
    refine ⟨d1, d2, ?_⟩
    rintro ⟨i, o, g, pl, hi, hp, rfl⟩
    simp only [if_pos (hd i _ hi)] at hp
    exact d3 ⟨i, o, g, pl, hT i _ hi, hp, rfl⟩

/-- A call that gives a value without addresses, and leaves what was as it was. -/
theorem prim_flat {Λ : LB} {P : Program} {A : Ask} (hr : Ready P A) (hp : ∀ x, x ∈ A.prims → PrimOk Λ P x.1 x.2) (hg : ∀ x, x ∈ A.globs → GlobOk Λ.w Λ.B x.1 x.2) {f : FuncId} {q : List AV → AS → Option (AV × AS)} (n : Nat)
    (h : ∀ as S v S', q as S = some (v, S') → S' = S ∧ flatF n v = true ∧ CallW (mkCx P A) f as S fun v' T => v' = v ∧ Sub S T) : PrimOk Λ P f q := by
  intro ρ as S w args v S' hR hl hq
  obtain ⟨rfl, hf, hc⟩ := h as S v S' hq
  obtain ⟨k1, k2⟩ := calls_of hr hp hg hR hl hc
  refine ⟨k1, k2.mono ?_⟩
  rintro e w' ⟨x, v', T, ρ', rfl, h1, ⟨rfl, h2⟩, h3, h4⟩
  have hx : Ext ρ (fun i g => if i < S'.next then ρ' i g else none) := by
    intro i g pl hpl
    have hi : i < S'.next := by
      rcases Nat.lt_or_ge i S'.next with hh | hh
      · exact hh
      · rw [hR.fresh i g hh] at hpl; cases hpl
    simp only [if_pos hi]
    exact h4.ext i g pl hpl
  have hO : ∀ id o, S'.h.get id = some o → ORel (fun i g => if i < S'.next then ρ' i g else none) w' id o := by
    intro id o ho
    have hT : T.h.get id = some o := by rw [h2.h id (hR.dom id o ho)]; exact ho
    have hT2 := h3.objs id o hT
    have h5 := hR.objs id o ho
    -- the object stands in w' through ρ'; its parts stand through ρ
    cases o with
    | row cells low top frz ty =>
      obtain ⟨a1, a2, a3⟩ := hT2
      obtain ⟨b1, b2, b3⟩ := h5
      have hid := hR.dom id _ ho
      refine ⟨a1, fun g g1 g2 => ?_, fun g k p p' c1 c2 c3 c4 e1 e2 => ?_⟩
      · obtain ⟨pl, C, fr, q1, q2, q3, q4, q5, q6, q7, q8, q9⟩ := a2 g g1 g2
        obtain ⟨pl0, C0, fr0, r1, r2, r3, r4, r5, r6, r7, r8, r9⟩ := b2 g g1 g2
        have e0 := h4.ext id g pl0 r1
        rw [q1] at e0
        cases e0
        have hCC : w'.heap[pl.b]? = some (.cells C ty fr) := q2
        refine ⟨pl, C, fr, by simp only [if_pos hid]; exact q1, q2, q3, q4, q5, fun i hi => ?_, q7, q8, q9⟩
        obtain ⟨y, u, s1, s2, s3, s4⟩ := q6 i hi
        obtain ⟨y0, u0, t1, t2, t3, t4⟩ := r6 i hi
        rw [s1] at t1
        cases t1
        refine ⟨y, u, s1, s2, ?_, s4⟩
        exact VRel.restrict hx h4.ext _ _ _ t3 s3
      · simp only [if_pos hid] at e1 e2
        exact a3 g k p p' c1 c2 c3 c4 e1 e2
    | map es clock =>
      obtain ⟨pl, ES, q1, q2, q3⟩ := hT2
      obtain ⟨pl0, ES0, r1, r2, r3⟩ := h5
      have hid := hR.dom id _ ho
      refine ⟨pl, ES, by simp only [if_pos hid]; exact q1, q2, q3.1, fun i e m he hm => ?_⟩
      obtain ⟨s1, s2, s3⟩ := q3.2 i e m he hm
      have hil : i < es.length := by
        rcases Nat.lt_or_ge i es.length with hh | hh
        · exact hh
        · rw [List.getElem?_eq_none hh] at he; cases he
      obtain ⟨m0, hm0⟩ : ∃ m0, ES0.toList[i]? = some m0 := ⟨_, List.getElem?_eq_getElem (by rw [← r3.1]; exact hil)⟩
      obtain ⟨t1, t2, t3⟩ := r3.2 i e m0 he hm0
      exact ⟨VRel.restrict hx h4.ext _ _ _ t1 s1, VRel.restrict hx h4.ext _ _ _ t2 s2, s3⟩
  refine ⟨x, _, rfl, flat_rel n v' x ρ' _ hf h1, h3.drop h2 hR.dom hO, ⟨hx, h4.os, h4.tape, h4.output, h4.size, h4.keep, fun b hb => ?_, Nat.le_refl _, fun id g hi hn => ⟨by simp only [if_pos hi]; exact (h4.resv id g hi hn).1, hn⟩⟩⟩
  obtain ⟨i, o, g, pl, hi, hp', rfl⟩ := hb
  simp only [if_pos (hR.dom i o hi)] at hp'
  exact h4.mine _ ⟨i, o, g, pl, by rw [h2.h i (hR.dom i o hi)]; exact hi, hp', rfl⟩

/-- From nothing: what was there stays. -/
theorem below_of {w w' : World} {ρ' : Rho} {S' : AS} (h : Kp (fun _ _ => none) ⟨.leaf, 0⟩ w ρ' S' w') : Below w.heap.size w w' :=
  ⟨h.os, h.tape, h.output, h.size, fun k hk => h.keep k hk (by rintro ⟨i, o, g, pl, ho, _⟩; cases ho)⟩
/-- A law over arguments without addresses. -/
theorem law_flat {P : Program} {A : Ask} (hr : Ready P A) (hp : ∀ Λ : LB, ∀ x, x ∈ A.prims → PrimOk Λ P x.1 x.2) (hg : A.globs = []) {f : FuncId} {vals : List AV} {args : Array Value} (hl : ∀ ρ, LRel ρ vals args.toList)
    (hc : CallW (mkCx P A) f vals ⟨.leaf, 0⟩ fun v _ => v = .bool true) (w : World) : Calls P f args w fun e w' => e = .returned (.bool true) ∧ Below w.heap.size w w' := by
  have hR := empty_R (Λ := ⟨w, fun _ => False⟩) w (Nat.le_refl _) (fun _ hb => hb.elim)
  refine (calls_of hr (hp ⟨w, fun _ => False⟩) (by rw [hg]; intro x hx; cases hx) hR (hl _) hc).2.mono ?_
  rintro e w' ⟨x, v, S', ρ', rfl, h1, rfl, _, h4⟩
  simp only [VRel] at h1
  exact ⟨by rw [h1], below_of h4⟩
end Go.Am
