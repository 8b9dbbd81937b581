/-
  Ways in a tree given by parents: the plain law.
-/
namespace Go.Proofs.Ytpjebmdeaieniaa.tree

/-- Each number's parent is below it. -/
def Par (p : Nat → Nat) : Prop := ∀ i, 0 < i → p i < i
def route (p : Nat → Nat) : Nat → Nat → Nat → List Nat
  | 0, a, _ => [a]
  | k + 1, a, b => if a = b then [a] else if b < a then a :: route p k (p a) b else route p k a (p b) ++ [b]
def way (p : Nat → Nat) (a b : Nat) : List Nat := route p (a + b) a b

section
variable {p : Nat → Nat} (hp : Par p)
include hp
theorem route_more : ∀ (k a b : Nat), a + b ≤ k → route p k a b = route p (a + b) a b := by
  intro k
  induction k using Nat.strongRecOn with
  | ind k ih =>
    intro a b h
    cases k with
    | zero => rw [show a + b = 0 by omega]
    | succ k =>
      cases hab : a + b with
      | zero =>
        have h1 : a = 0 := by omega
        have h2 : b = 0 := by omega
        subst h1; subst h2
        simp [route]
      | succ m =>
        simp only [route]
        by_cases h1 : a = b
        · simp [h1]
        · rw [if_neg h1, if_neg h1]
          by_cases h2 : b < a
          · rw [if_pos h2, if_pos h2]
            have h3 := hp a (by omega)
            rw [ih k (by omega) (p a) b (by omega), ih m (by omega) (p a) b (by omega)]
          · rw [if_neg h2, if_neg h2]
            have h3 := hp b (by omega)
            rw [ih k (by omega) a (p b) (by omega), ih m (by omega) a (p b) (by omega)]
theorem way_same (a : Nat) : way p a a = [a] := by
  have _h := hp
  unfold way
  cases h : a + a with
  | zero => simp [route]
  | succ m => simp [route]
theorem way_up {a b : Nat} (h : b < a) : way p a b = a :: way p (p a) b := by
  unfold way
  obtain ⟨m, hm⟩ : ∃ m, a + b = m + 1 := ⟨a + b - 1, by omega⟩
  have h3 := hp a (by omega)
  rw [hm]
  simp only [route]
  rw [if_neg (by omega), if_pos h, route_more hp m _ _ (by omega)]
theorem way_down {a b : Nat} (h : a < b) : way p a b = way p a (p b) ++ [b] := by
  unfold way
  obtain ⟨m, hm⟩ : ∃ m, a + b = m + 1 := ⟨a + b - 1, by omega⟩
  have h3 := hp b (by omega)
  rw [hm]
  simp only [route]
  rw [if_neg (by omega), if_neg (by omega), route_more hp m _ _ (by omega)]

/-- One induction for all. -/
theorem way_ind {M : Nat → Nat → Prop} (h0 : ∀ a, M a a) (h1 : ∀ a b, b < a → M (p a) b → M a b) (h2 : ∀ a b, a < b → M a (p b) → M a b) (a b : Nat) : M a b := by
  have go : ∀ k a b, a + b ≤ k → M a b := by
    intro k
    induction k with
    | zero => intro a b h; rw [show a = b by omega]; exact h0 b
    | succ k ih =>
      intro a b h
      rcases Nat.lt_trichotomy a b with h3 | h3 | h3
      · exact h2 a b h3 (ih _ _ (by have := hp b (by omega); omega))
      · rw [h3]; exact h0 b
      · exact h1 a b h3 (ih _ _ (by have := hp a (by omega); omega))
  exact go _ a b (Nat.le_refl _)

theorem way_head (a b : Nat) : ∃ t, way p a b = a :: t := by
  refine way_ind hp (M := fun a b => ∃ t, way p a b = a :: t) (fun a => ⟨[], way_same hp a⟩) (fun a b h _ => ⟨_, way_up hp h⟩) (fun a b h ⟨t, e⟩ => ⟨t ++ [b], ?_⟩) a b
  rw [way_down hp h, e]; rfl
theorem way_last (a b : Nat) : ∃ t, way p a b = t ++ [b] := by
  refine way_ind hp (M := fun a b => ∃ t, way p a b = t ++ [b]) (fun a => ⟨[], way_same hp a⟩) (fun a b h ⟨t, e⟩ => ⟨a :: t, ?_⟩) (fun a b h _ => ⟨_, way_down hp h⟩) a b
  rw [way_up hp h, e]; rfl
theorem way_turn (a b : Nat) : way p b a = (way p a b).reverse := by
  refine way_ind hp (M := fun a b => way p b a = (way p a b).reverse) (fun a => by simp [way_same hp]) (fun a b h e => ?_) (fun a b h e => ?_) a b
  · rw [way_down hp h, way_up hp h, e]; simp
  · rw [way_up hp h, way_down hp h, e]; simp
theorem way_le (a b : Nat) : ∀ x, x ∈ way p a b → x ≤ a ∨ x ≤ b := by
  refine way_ind hp (M := fun a b => ∀ x, x ∈ way p a b → x ≤ a ∨ x ≤ b) (fun a x hx => ?_) (fun a b h ih x hx => ?_) (fun a b h ih x hx => ?_) a b
  · rw [way_same hp] at hx; simp at hx; omega
  · rw [way_up hp h] at hx
    rcases List.mem_cons.1 hx with rfl | hx
    · omega
    · have := ih x hx; have := hp a (by omega); omega
  · rw [way_down hp h] at hx
    rcases List.mem_append.1 hx with hx | hx
    · have := ih x hx; have := hp b (by omega); omega
    · simp at hx; omega
theorem way_nodup (a b : Nat) : (way p a b).Nodup := by
  refine way_ind hp (M := fun a b => (way p a b).Nodup) (fun a => by simp [way_same hp]) (fun a b h ih => ?_) (fun a b h ih => ?_) a b
  · rw [way_up hp h, List.nodup_cons]
    refine ⟨fun hx => ?_, ih⟩
    have := way_le hp _ _ _ hx; have := hp a (by omega); omega
  · rw [way_down hp h, List.nodup_append]
    refine ⟨ih, by simp, fun x hx y hy => ?_⟩
    simp at hy; subst hy
    have := way_le hp _ _ _ hx; have := hp y (by omega); omega
theorem way_len (a b : Nat) : (way p a b).length ≤ a + b + 1 := by
  refine way_ind hp (M := fun a b => (way p a b).length ≤ a + b + 1) (fun a => by simp [way_same hp]) (fun a b h ih => ?_) (fun a b h ih => ?_) a b
  · rw [way_up hp h]; have := hp a (by omega); simp; omega
  · rw [way_down hp h]; have := hp b (by omega); simp; omega

/-- An edge: the way from one of its ends leads over the other. -/
theorem edge (x : Nat) (hx : 0 < x) (t : Nat) : way p x t = x :: way p (p x) t ∨ way p (p x) t = p x :: way p x t := by
  induction t using Nat.strongRecOn with
  | ind t ih =>
    have hpx := hp x hx
    rcases Nat.lt_trichotomy t x with h | h | h
    · exact .inl (way_up hp h)
    · subst h
      refine .inr ?_
      rw [way_down hp hpx, way_same hp, way_same hp]; rfl
    · have hpt := hp t (by omega)
      rcases ih (p t) hpt with e | e
      · refine .inl ?_
        rw [way_down hp h, way_down hp (Nat.lt_trans hpx h), e]; rfl
      · refine .inr ?_
        rw [way_down hp h, way_down hp (Nat.lt_trans hpx h), e]; rfl
end

/-- Neighbours. -/
def nb (p : Nat → Nat) (x y : Nat) : Prop := (0 < x ∧ y = p x) ∨ (0 < y ∧ x = p y)
theorem nb.symm {p : Nat → Nat} {x y : Nat} (h : nb p x y) : nb p y x := h.elim (fun h => .inr h) (fun h => .inl h)
/-- The second broker of a way. -/
def nx (p : Nat → Nat) (a b : Nat) : Option Nat := (way p a b)[1]?
section
variable {p : Nat → Nat} (hp : Par p)
include hp
theorem nb_ne {x y : Nat} (h : nb p x y) : x ≠ y := by
  rcases h with ⟨h1, h2⟩ | ⟨h1, h2⟩
  · have := hp x h1; omega
  · have := hp y h1; omega
theorem edge_nb {x y : Nat} (h : nb p x y) (t : Nat) : way p x t = x :: way p y t ∨ way p y t = y :: way p x t := by
  rcases h with ⟨h1, rfl⟩ | ⟨h1, rfl⟩
  · exact edge hp x h1 t
  · exact (edge hp y h1 t).symm
theorem nx_of {x y t : Nat} (h : way p x t = x :: way p y t) : nx p x t = some y := by
  unfold nx
  obtain ⟨r, e⟩ := way_head hp y t
  rw [h, e]; rfl
/-- Over y or not. -/
theorem edge_iff {x y : Nat} (h : nb p x y) (t : Nat) : (way p x t = x :: way p y t ∧ nx p x t = some y ∧ nx p y t ≠ some x) ∨ (way p y t = y :: way p x t ∧ nx p y t = some x ∧ nx p x t ≠ some y) := by
  have ne : ∀ {x y : Nat}, way p x t = x :: way p y t → nx p y t ≠ some x := by
    intro x y e hn
    have hd := way_nodup hp x t
    rw [e, List.nodup_cons] at hd
    exact hd.1 (List.mem_of_getElem? hn)
  rcases edge_nb hp h t with e | e
  · exact .inl ⟨e, nx_of hp e, ne e⟩
  · exact .inr ⟨e, nx_of hp e, ne e⟩
theorem step (a t : Nat) (h : a ≠ t) : ∃ y, nb p a y ∧ way p a t = a :: way p y t := by
  have key : ∀ a t, a ≠ t → ∃ y, nb p a y ∧ way p a t = a :: way p y t ∧ (y ≤ a ∨ y ≤ t) := by
    intro a t
    refine way_ind hp (M := fun a t => a ≠ t → ∃ y, nb p a y ∧ way p a t = a :: way p y t ∧ (y ≤ a ∨ y ≤ t)) (fun a h => absurd rfl h) (fun a b h _ _ => ⟨p a, .inl ⟨by omega, rfl⟩, way_up hp h, .inl (Nat.le_of_lt (hp a (by omega)))⟩) (fun a b h ih _ => ?_) a t
    by_cases he : a = p b
    · refine ⟨b, .inr ⟨by omega, he⟩, ?_, .inr (Nat.le_refl _)⟩
      rw [way_down hp h, ← he, way_same hp, way_same hp]; rfl
    · obtain ⟨y, h1, h2, h3⟩ := ih he
      have hpb := hp b (by omega)
      refine ⟨y, h1, ?_, .inr (by omega)⟩
      rw [way_down hp h, h2, way_down hp (show y < b by omega)]; rfl
  obtain ⟨y, h1, h2, _⟩ := key a t h
  exact ⟨y, h1, h2⟩
theorem nx_some {a t : Nat} (h : a ≠ t) : ∃ y, nx p a t = some y ∧ nb p a y ∧ way p a t = a :: way p y t := by
  obtain ⟨y, h1, h2⟩ := step hp a t h
  exact ⟨y, nx_of hp h2, h1, h2⟩
theorem nx_none (a : Nat) : nx p a a = none := by unfold nx; rw [way_same hp]; rfl
end

/-- A broker's neighbours, rising. -/
def adjOf (p : Nat → Nat) (n i : Nat) : List Nat := (if i = 0 then [] else [p i]) ++ (List.range n).filter fun j => decide (0 < j) && decide (p j = i)
theorem mem_adj {p : Nat → Nat} (hp : Par p) {n i j : Nat} (hi : i < n) : j ∈ adjOf p n i ↔ nb p i j ∧ j < n := by
  unfold adjOf nb
  simp only [List.mem_append, List.mem_filter, List.mem_range, Bool.and_eq_true, decide_eq_true_eq]
  constructor
  · rintro (h | ⟨h1, h2, h3⟩)
    · by_cases h0 : i = 0
      · simp [h0] at h
      · rw [if_neg h0] at h
        simp at h
        have := hp i (by omega)
        exact ⟨.inl ⟨by omega, h⟩, by omega⟩
    · exact ⟨.inr ⟨h2, h3.symm⟩, h1⟩
  · rintro ⟨⟨h1, h2⟩ | ⟨h1, h2⟩, h3⟩
    · left; rw [if_neg (by omega)]; simp [h2]
    · right; exact ⟨h3, h1, h2.symm⟩
theorem adj_nodup {p : Nat → Nat} (hp : Par p) (n i : Nat) : (adjOf p n i).Nodup := by
  unfold adjOf
  rw [List.nodup_append]
  refine ⟨by split <;> simp, List.nodup_range.filter _, fun x hx y hy => ?_⟩
  split at hx
  · cases hx
  · rename_i h0
    simp at hx
    simp only [List.mem_filter, Bool.and_eq_true, decide_eq_true_eq] at hy
    have h1 := hp i (by omega)
    have h2 := hp y hy.2.1
    omega
end Go.Proofs.Ytpjebmdeaieniaa.tree
