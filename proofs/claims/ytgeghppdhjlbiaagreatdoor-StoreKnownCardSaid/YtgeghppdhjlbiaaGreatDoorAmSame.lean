/-
  The abstract machine: values that are the same; values that hold no address; objects through fewer places.
-/
import Derived.Test.YtgeghppdhjlbiaaGreatDoorAmMem
namespace Go.Am
open Go
variable {Λ : LB}

theorem sameVF_eq : ∀ (n : Nat) (x y : AV), sameVF n x y = true → x = y := by
  intro n
  induction n with
  | zero => intro x y h; cases h
  | succ n ih =>
    have lists : ∀ (a b : List AV), (List.rec (motive := fun _ => List AV → Bool) (fun b => List.casesOn (motive := fun _ => Bool) b true fun _ _ => false)
        (fun x _ ihl b => List.casesOn (motive := fun _ => Bool) b false fun y t => cond (sameVF n x y) (ihl t) false) a) b = true → a = b := by
      intro a
      induction a with
      | nil => intro b h; cases b with
        | nil => rfl
        | cons _ _ => cases h
      | cons x a iha =>
        intro b h
        cases b with
        | nil => cases h
        | cons y b =>
          have h' : cond (sameVF n x y) ((List.rec (motive := fun _ => List AV → Bool) (fun b => List.casesOn (motive := fun _ => Bool) b true fun _ _ => false)
            (fun x _ ihl b => List.casesOn (motive := fun _ => Bool) b false fun y t => cond (sameVF n x y) (ihl t) false) a) b) false = true := h
          cases hxy : sameVF n x y with
          | false => rw [hxy] at h'; cases h'
          | true =>
            rw [hxy] at h'
            rw [ih x y hxy, iha b h']
    have hun : ∀ x y : AV, sameVF (n + 1) x y = (match x, y with
      | .bool a, .bool b => cond a b (!b)
      | .int j a, .int k b => kindEq j k && eqI a b
      | .str a, .str b => eqS a b
      | .nilp, .nilp => true
      | .ptr a b c d, .ptr e f g h => Nat.beq a e && Nat.beq b f && Nat.beq c g && Nat.beq d h
      | .nils, .nils => true
      | .slice a b c d e f none, .slice a' b' c' d' e' f' none => Nat.beq a a' && Nat.beq b b' && Nat.beq c c' && Nat.beq d d' && Nat.beq e e' && Nat.beq f f'
      | .slice a b c d e f (some g), .slice a' b' c' d' e' f' (some g') => Nat.beq a a' && Nat.beq b b' && Nat.beq c c' && Nat.beq d d' && Nat.beq e e' && Nat.beq f f' && Nat.beq g g'
      | .nilm, .nilm => true
      | .map a, .map b => Nat.beq a b
      | .func (.func f) a b, .func (.func g) c d => Nat.beq f g && (List.rec (motive := fun _ => List AV → Bool) (fun b => List.casesOn (motive := fun _ => Bool) b true fun _ _ => false)
        (fun x _ ihl b => List.casesOn (motive := fun _ => Bool) b false fun y t => cond (sameVF n x y) (ihl t) false) a) c && (List.rec (motive := fun _ => List AV → Bool) (fun b => List.casesOn (motive := fun _ => Bool) b true fun _ _ => false)
        (fun x _ ihl b => List.casesOn (motive := fun _ => Bool) b false fun y t => cond (sameVF n x y) (ihl t) false) b) d
      | .obj .yld a, .obj .yld b => Nat.beq a b
      | .obj .chan a, .obj .chan b => Nat.beq a b
      | .nilf, .nilf => true
      | .niface, .niface => true
      | .iface t v, .iface u w => Nat.beq t u && sameVF n v w
      | .agg a, .agg b => (List.rec (motive := fun _ => List AV → Bool) (fun b => List.casesOn (motive := fun _ => Bool) b true fun _ _ => false)
        (fun x _ ihl b => List.casesOn (motive := fun _ => Bool) b false fun y t => cond (sameVF n x y) (ihl t) false) a) b
      | .tuple a, .tuple b => (List.rec (motive := fun _ => List AV → Bool) (fun b => List.casesOn (motive := fun _ => Bool) b true fun _ _ => false)
        (fun x _ ihl b => List.casesOn (motive := fun _ => Bool) b false fun y t => cond (sameVF n x y) (ihl t) false) a) b
      | _, _ => false) := fun x y => rfl
    intro x y h
    rw [hun] at h
    split at h
    all_goals try (cases h; done)
    all_goals try rfl
    all_goals try simp only [Bool.and_eq_true, nbeq, decide_eq_true_eq, eqI_eq, eqS_eq, kindEq_eq] at h
    · rename_i a b; cases a <;> cases b <;> simp_all
    · obtain ⟨rfl, rfl⟩ := h; rfl
    · subst h; rfl
    · obtain ⟨⟨⟨rfl, rfl⟩, rfl⟩, rfl⟩ := h; rfl
    · obtain ⟨⟨⟨⟨⟨rfl, rfl⟩, rfl⟩, rfl⟩, rfl⟩, rfl⟩ := h; rfl
    · obtain ⟨⟨⟨⟨⟨⟨rfl, rfl⟩, rfl⟩, rfl⟩, rfl⟩, rfl⟩, rfl⟩ := h; rfl
    · subst h; rfl
    · obtain ⟨⟨rfl, h1⟩, h2⟩ := h; rw [lists _ _ h1, lists _ _ h2]
    · subst h; rfl
    · subst h; rfl
    · obtain ⟨rfl, h2⟩ := h; rw [ih _ _ h2]
    · rw [lists _ _ h]
    · rw [lists _ _ h]

theorem flat_rel : ∀ (n : Nat) (v : AV) (x : Value) (ρ ρ' : Rho), flatF n v = true → VRel ρ v x → VRel ρ' v x := by
  intro n
  induction n with
  | zero => intro v x ρ ρ' h; cases h
  | succ n ih =>
    intro v x ρ ρ' h hv
    have lst : ∀ (l : List AV) (ys : List Value), flatL (flatF n) l = true → LRel ρ l ys → LRel ρ' l ys := by
      intro l
      induction l with
      | nil => intro ys _ h; simpa [LRel] using h
      | cons a l ihl =>
        intro ys hf h
        simp only [flatL, Bool.and_eq_true] at hf
        simp only [LRel] at h
        obtain ⟨y, t, rfl, p, q⟩ := h
        exact LRel.cons (ih a y ρ ρ' hf.1 p) (ihl t hf.2 q)
    cases v <;> simp only [flatF, Bool.false_eq_true] at h <;> (try (simp only [VRel] at hv ⊢; exact hv))
    · simp only [VRel] at hv ⊢
      obtain ⟨y, e, p⟩ := hv
      exact ⟨y, e, ih _ _ _ _ h p⟩
    · simp only [VRel] at hv ⊢
      obtain ⟨a, e, p, q⟩ := hv
      exact ⟨a, e, lst _ _ h p, q⟩
    · simp only [VRel] at hv ⊢
      obtain ⟨a, e, p⟩ := hv
      exact ⟨a, e, lst _ _ h p⟩

mutual
/-- What one knew of a value's parts suffices. -/
theorem VRel.restrict {ρ ρ1 ρ' : Rho} (h1 : Ext ρ ρ1) (h2 : Ext ρ ρ') : ∀ (x : AV) (v0 v : Value), VRel ρ x v0 → VRel ρ' x v → VRel ρ1 x v
  | .top, _, _, _, _ => by simp [VRel]
  | .bool b, _, v, _, hv => by simpa [VRel] using hv
  | .int k n, _, v, _, hv => by simpa [VRel] using hv
  | .str s, _, v, _, hv => by simpa [VRel] using hv
  | .nilp, _, v, _, hv => by simpa [VRel] using hv
  | .ptr id g off lim, _, v, h0, hv => by
    simp only [VRel] at *
    obtain ⟨pl, a, b, c⟩ := h0
    obtain ⟨pl', a', b', c'⟩ := hv
    rw [h2 _ _ _ a] at a'; cases a'
    exact ⟨pl, h1 _ _ _ a, b', c'⟩
  | .glob g off, _, v, _, hv => by simpa [VRel] using hv
  | .nils, _, v, _, hv => by simpa [VRel] using hv
  | .slice id g off len lim sz cap, _, v, h0, hv => by
    simp only [VRel] at *
    obtain ⟨pl, c, a, _⟩ := h0
    obtain ⟨pl', c', a', rest⟩ := hv
    rw [h2 _ _ _ a] at a'; cases a'
    exact ⟨pl, c', h1 _ _ _ a, rest⟩
  | .nilm, _, v, _, hv => by simpa [VRel] using hv
  | .map id, _, v, h0, hv => by
    simp only [VRel] at *
    obtain ⟨pl, a, b⟩ := h0
    obtain ⟨pl', a', b'⟩ := hv
    rw [h2 _ _ _ a] at a'; cases a'
    exact ⟨pl, h1 _ _ _ a, b'⟩
  | .func fn f c, _, v, h0, hv => by
    simp only [VRel] at *
    obtain ⟨a, b, e, p, q⟩ := h0
    obtain ⟨a', b', e', p', q'⟩ := hv
    exact ⟨a', b', e', LRel.restrict h1 h2 f _ _ p p', LRel.restrict h1 h2 c _ _ q q'⟩
  | .nilf, _, v, _, hv => by simpa [VRel] using hv
  | .niface, _, v, _, hv => by simpa [VRel] using hv
  | .iface t x, _, v, h0, hv => by
    simp only [VRel] at *
    obtain ⟨y, e, p⟩ := h0
    obtain ⟨y', e', p'⟩ := hv
    exact ⟨y', e', VRel.restrict h1 h2 x _ _ p p'⟩
  | .agg cs, _, v, h0, hv => by
    simp only [VRel] at *
    obtain ⟨a, e, p, q⟩ := h0
    obtain ⟨a', e', p', q'⟩ := hv
    exact ⟨a', e', LRel.restrict h1 h2 cs _ _ p p', q'⟩
  | .tuple vs, _, v, h0, hv => by
    simp only [VRel] at *
    obtain ⟨a, e, p⟩ := h0
    obtain ⟨a', e', p'⟩ := hv
    exact ⟨a', e', LRel.restrict h1 h2 vs _ _ p p'⟩
  | .obj k id, _, v, h0, hv => by
    simp only [VRel] at *
    obtain ⟨pl, a, b⟩ := h0
    obtain ⟨pl', a', b'⟩ := hv
    rw [h2 _ _ _ a] at a'; cases a'
    exact ⟨pl, h1 _ _ _ a, b'⟩
  | .nilc, _, v, _, hv => by simpa [VRel] using hv
  | .pan _, _, _, h0, _ => by simp only [VRel] at h0
theorem LRel.restrict {ρ ρ1 ρ' : Rho} (h1 : Ext ρ ρ1) (h2 : Ext ρ ρ') : ∀ (xs : List AV) (l0 l : List Value), LRel ρ xs l0 → LRel ρ' xs l → LRel ρ1 xs l
  | [], _, l, _, hl => by simpa [LRel] using hl
  | x :: xs, _, l, h0, hl => by
    simp only [LRel] at *
    obtain ⟨y, ys, e, p, q⟩ := h0
    obtain ⟨y', ys', e', p', q'⟩ := hl
    exact ⟨y', ys', e', VRel.restrict h1 h2 x _ _ p p', LRel.restrict h1 h2 xs _ _ q q'⟩
end


theorem sameLs_eq (n : Nat) : ∀ (a b : List AV), sameLs n a b = true → a = b := by
  intro a
  induction a with
  | nil => intro b h; cases b with
    | nil => rfl
    | cons _ _ => cases h
  | cons x a iha =>
    intro b h
    cases b with
    | nil => cases h
    | cons y b =>
      have h' : cond (sameVF n x y) (sameLs n a b) false = true := h
      cases hxy : sameVF n x y with
      | false => rw [hxy] at h'; cases h'
      | true =>
        rw [hxy] at h'
        rw [sameVF_eq n x y hxy, iha b h']
theorem sameEs_eq : ∀ (a b : List AEnt), sameEs a b = true → a = b := by
  intro a
  induction a with
  | nil => intro b h; cases b with
    | nil => rfl
    | cons _ _ => cases h
  | cons x a iha =>
    intro b h
    cases b with
    | nil => cases h
    | cons y b =>
      have h' : cond (sameVF 8 x.key y.key && sameVF 8 x.val y.val && Nat.beq x.born y.born) (sameEs a b) false = true := h
      cases hxy : (sameVF 8 x.key y.key && sameVF 8 x.val y.val && Nat.beq x.born y.born) with
      | false => rw [hxy] at h'; cases h'
      | true =>
        rw [hxy] at h'
        simp only [Bool.and_eq_true, nbeq, decide_eq_true_eq] at hxy
        obtain ⟨⟨h1, h2⟩, h3⟩ := hxy
        obtain ⟨k, v, n⟩ := x
        obtain ⟨k', v', n'⟩ := y
        simp only at h1 h2 h3
        rw [sameVF_eq _ _ _ h1, sameVF_eq _ _ _ h2, h3, iha b h']
theorem sameO_eq {a b : AObj} (h : sameO a b = true) : a = b := by
  unfold sameO at h
  split at h
  · simp only [Bool.and_eq_true, nbeq, decide_eq_true_eq] at h
    obtain ⟨⟨⟨⟨h1, h2⟩, h3⟩, h4⟩, h5⟩ := h
    rename_i c l t f y c' l' t' f' y'
    rw [sameLs_eq _ _ _ h1, h2, h3, h5]
    cases f <;> cases f' <;> simp_all
  · simp only [Bool.and_eq_true, nbeq, decide_eq_true_eq] at h
    rw [sameEs_eq _ _ h.1, h.2]
  · cases h
theorem OthRel.restrict {ρ ρ1 ρ' : Rho} (h1 : Ext ρ ρ1) (h2 : Ext ρ ρ') {x : AOth} {o0 o : Obj} (h0 : OthRel ρ x o0) (h : OthRel ρ' x o) : OthRel ρ1 x o := by
  cases x with
  | iter m since seen last =>
    cases m with
    | none => exact h
    | some m =>
      obtain ⟨pl, sn, r1, r2, r3⟩ := h
      obtain ⟨pl0, sn0, q1, _, _⟩ := h0
      have := h2 _ _ _ q1
      rw [r1] at this; cases this
      exact ⟨pl, sn, h1 _ _ _ q1, r2, r3⟩
  | siter s pos => exact h
  | loop st j F ps a b =>
    obtain ⟨fn, tmps, d, r1, r2, r3⟩ := h
    obtain ⟨fn0, tmps0, d0, q1, q2, _⟩ := h0
    exact ⟨fn, tmps, d, r1, ⟨fun t => VRel.restrict h1 h2 _ _ _ (q2.slot t) (r2.slot t), r2.size⟩, r3⟩
  | dfr op => exact h
  | chan cap buf =>
    obtain ⟨B, s, r, r1, r2⟩ := h
    obtain ⟨B0, s0, r0, q1, q2⟩ := h0
    exact ⟨B, s, r, r1, LRel.restrict h1 h2 _ _ _ q2 r2⟩
/-- An object that stands through ρ', of whose parts one knew through ρ, stands through what ρ' says of its own and ρ of the others. -/
theorem ORel.restrict {ρ ρ1 ρ' : Rho} (h1 : Ext ρ ρ1) (h2 : Ext ρ ρ') {w w' : World} {id : Nat} {o : AObj} (hid : ∀ g, ρ1 id g = ρ' id g) (h0 : ORel ρ w id o) (h : ORel ρ' w' id o) : ORel ρ1 w' id o := by
  cases o with
  | row cells low top frz ty =>
    obtain ⟨a1, a2, a3⟩ := h
    obtain ⟨b1, b2, b3⟩ := h0
    refine ⟨a1, fun g g1 g2 => ?_, fun g k p p' c1 c2 c3 c4 e1 e2 => ?_⟩
    · obtain ⟨pl, C, fr, q1, q2, q3, q4, q5, q6, q7, q8, q9⟩ := a2 g g1 g2
      obtain ⟨pl0, C0, fr0, r1, r2, r3, r4, r5, r6, r7, r8, r9⟩ := b2 g g1 g2
      have e0 := h2 id g pl0 r1
      rw [q1] at e0
      cases e0
      refine ⟨pl, C, fr, by rw [hid]; exact q1, q2, q3, q4, q5, fun i hi => ?_, q7, q8, q9⟩
      obtain ⟨y, u, s1, s2, s3, s4⟩ := q6 i hi
      obtain ⟨y0, u0, t1, t2, t3, t4⟩ := r6 i hi
      rw [s1] at t1
      cases t1
      exact ⟨y, u, s1, s2, VRel.restrict h1 h2 _ _ _ t3 s3, s4⟩
    · rw [hid] at e1 e2
      exact a3 g k p p' c1 c2 c3 c4 e1 e2
  | map es clock =>
    obtain ⟨pl, ES, q1, q2, q3⟩ := h
    obtain ⟨pl0, ES0, r1, r2, r3⟩ := h0
    refine ⟨pl, ES, by rw [hid]; exact q1, q2, q3.1, fun i e m he hm => ?_⟩
    obtain ⟨s1, s2, s3⟩ := q3.2 i e m he hm
    have hil : i < es.length := by
      rcases Nat.lt_or_ge i es.length with hh | hh
      · exact hh
      · rw [List.getElem?_eq_none hh] at he; cases he
    obtain ⟨m0, hm0⟩ : ∃ m0, ES0.toList[i]? = some m0 := ⟨_, List.getElem?_eq_getElem (by rw [← r3.1]; exact hil)⟩
    obtain ⟨t1, t2, t3⟩ := r3.2 i e m0 he hm0
    exact ⟨VRel.restrict h1 h2 _ _ _ t1 s1, VRel.restrict h1 h2 _ _ _ t2 s2, s3⟩
  | oth x =>
    obtain ⟨pl, o, q1, q2, q3, q4⟩ := h
    obtain ⟨pl0, o0, r1, r2, r3, r4⟩ := h0
    exact ⟨pl, o, by rw [hid]; exact q1, q2, OthRel.restrict h1 h2 r3 q3, q4⟩

end Go.Am
