/-
  The abstract machine against the model: calls, whole; code.
  The abstract machine: an operation sees its operands alone.
-/
import Derived.Test.YtpgmahedcpepkaaGreatDoorAmLeave
namespace Go.Am
open Go
variable {Λ : LB}

/-- What is asked of a call's outcome. -/
def PostOk (Λ : LB) (ρ : Rho) (S : AS) (w : World) (Post : Ending → World → Prop) (r : AV × AS) : Prop :=
  ∀ ρ' e w', RetOk ρ' r.1 e → R Λ ρ' r.2 w' → Kp ρ S w ρ' r.2 w' → Post e w'

theorem fnF_ok {P : Program} {cx : Cx} (hcx : CxOk Λ P cx) {n : Nat} (hc : CodeOk Λ P cx n) {ρ : Rho} {f : FuncId} {as : List AV} {S : AS} {w : World} {args : Array Value} {Post : Ending → World → Prop}
    (h : (fnF cx (exec cx n) f as S).All (PostOk Λ ρ S w Post)) (hR : R Λ ρ S w) (hl : LRel ρ as args.toList) : TgtOk P ρ args w Post (.fn f) := by
  unfold fnF at h
  cases hq : cx.prims.get f with
  | some q =>
    rw [hq] at h
    simp only [] at h
    cases hr : q as S with
    | none => rw [hr] at h; exact h.elim
    | some r =>
      rw [hr] at h
      obtain ⟨v, S'⟩ := r
      obtain ⟨hfn, hcalls⟩ := hcx.prims f q hq ρ as S w args v S' hR hl hr
      refine ⟨hfn, hcalls.mono fun e w' he => ?_⟩
      obtain ⟨x, ρ', rfl, e2, e3, e4⟩ := he
      exact h.1 ρ' _ w' (RetOk.of e2) e3 e4
  | none =>
  rw [hq] at h
  simp only [] at h
  cases hf : cx.fns.get f with
  | none => rw [hf] at h; exact h.elim
  | some fn =>
    rw [hf] at h
    simp only [] at h
    have hfn := hcx.fns f fn hf
    cases hb : fn.body with
    | none => rw [hb] at h; exact h.elim
    | some c =>
      rw [hb] at h
      simp only [] at h
      refine ⟨⟨fn, hfn, by rw [hb]; rfl⟩, callsIn_wide.1 (callsIn_of_wp_marks (n := 0) hfn hb trivial ?_)⟩
      refine hc none c _ ρ _ S w _ (.inl rfl) hR (initF_rel hl fn.ntmps) ?_
      refine (Res.all_bind h).mono fun o ho ρ' e a' w' k0 h1 h2 h3 => ?_
      cases he : o.ex with
      | exit id => rw [he] at ho; exact ho.elim
      | goto l => rw [he] at ho; exact ho.elim
      | normal =>
        rw [he] at ho k0
        cases k0
        exact leaveL_ok hcx hc o.F.ds a'.defers ρ' o.S .ret _ w' h1 h2.srel h2.defers rfl (ho.mono fun r hr ρ'' e w'' j0 j1 j2 => hr ρ'' e w'' j0 j1 (h3.trans j2))
      | ret =>
        rw [he] at ho k0
        cases k0
        exact leaveL_ok hcx hc o.F.ds a'.defers ρ' o.S .ret _ w' h1 h2.srel h2.defers rfl (ho.mono fun r hr ρ'' e w'' j0 j1 j2 => hr ρ'' e w'' j0 j1 (h3.trans j2))
      | pan v =>
        rw [he] at ho k0
        obtain ⟨x, rfl, hx⟩ := k0
        exact leaveL_ok hcx hc o.F.ds a'.defers ρ' o.S (.pan v) _ w' h1 h2.srel h2.defers ⟨x, rfl, hx⟩ (ho.mono fun r hr ρ'' e w'' j0 j1 j2 => hr ρ'' e w'' j0 j1 (h3.trans j2))

/-! ### Calls that lay no more than their result's row -/
theorem cut_get (S : AS) : ∀ (ids : List Nat) (t : T AObj) (i : Nat), (List.foldl (fun t id => match S.h.get id with | some o => t.set id o | none => t) t ids).get i = if i ∈ ids ∧ S.h.get i ≠ none then S.h.get i else t.get i
  | [], t, i => by simp
  | id :: ids, t, i => by
    rw [List.foldl_cons, cut_get S ids]
    by_cases h : i ∈ ids ∧ S.h.get i ≠ none
    · rw [if_pos h, if_pos ⟨by simp [h.1], h.2⟩]
    · rw [if_neg h]
      by_cases hi : i = id
      · subst hi
        cases ho : S.h.get i with
        | none => rw [if_neg (by simp)]
        | some o => rw [if_pos (by simp)]; exact get_set_same _ _ _
      · rw [if_neg (by
          rintro ⟨h1, h2⟩
          rcases List.mem_cons.1 h1 with h3 | h3
          · exact hi h3
          · exact h ⟨h3, h2⟩)]
        cases S.h.get id with
        | none => rfl
        | some o => exact get_set_ne _ _ hi
theorem cutS_get (S : AS) (ids : List Nat) (i : Nat) : (cutS S ids).h.get i = if i ∈ ids then S.h.get i else none := by
  show (List.foldl (fun t id => match S.h.get id with | some o => t.set id o | none => t) T.leaf ids).get i = _
  rw [cut_get, get_leaf]
  by_cases h : i ∈ ids
  · rw [if_pos h]
    cases ho : S.h.get i with
    | none => simp
    | some o => simp [h]
  · rw [if_neg (fun e => h e.1), if_neg h]
theorem cutS_some {S : AS} {ids : List Nat} {i : Nat} {o : AObj} (h : (cutS S ids).h.get i = some o) : i ∈ ids ∧ S.h.get i = some o := by
  rw [cutS_get] at h
  by_cases hi : i ∈ ids
  · rw [if_pos hi] at h; exact ⟨hi, h⟩
  · rw [if_neg hi] at h; cases h
theorem Wrt.cut {ρ : Rho} {S : AS} {ids : List Nat} {b : Nat} (h : Wrt ρ (cutS S ids) b) : Wrt ρ S b := by
  obtain ⟨i, o, g, pl, ho, hz, hp, e⟩ := h
  exact ⟨i, o, g, pl, (cutS_some ho).2, hz, hp, e⟩
theorem Mine.cut {ρ : Rho} {S : AS} {ids : List Nat} {b : Nat} (h : Mine ρ (cutS S ids) b) : Mine ρ S b := by
  obtain ⟨i, o, g, pl, ho, hp, e⟩ := h
  exact ⟨i, o, g, pl, (cutS_some ho).2, hp, e⟩
theorem R.cut {ρ : Rho} {S : AS} {w : World} (h : R Λ ρ S w) (ids : List Nat) : R Λ ρ (cutS S ids) w :=
  ⟨fun i o ho => h.objs i o (cutS_some ho).2, fun i o ho => h.dom i o (cutS_some ho).2, h.fresh, fun i c l t f y ho => h.topg i c l t f y (cutS_some ho).2, fun i o g pl ho => h.lt i o g pl (cutS_some ho).2,
    fun i j o oj g gj pl plj hij ho hoj => h.apart i j o oj g gj pl plj hij (cutS_some ho).2 (cutS_some hoj).2, h.start, fun b hb => let ⟨a, c, d⟩ := h.base b hb; ⟨a, c, fun hm => d (Wrt.cut hm)⟩⟩

theorem stayed_get {S : AS} {ids : List Nat} {r : AV × AS} (h : stayed S ids r = true) {i : Nat} (hi : i ∈ ids) : r.2.h.get i = S.h.get i := by
  unfold stayed at h
  rw [allL_eq, List.all_eq_true] at h
  have := h i hi
  cases h1 : S.h.get i with
  | none =>
    cases h2 : r.2.h.get i with
    | none => rfl
    | some b => rw [h1, h2] at this; cases this
  | some a =>
    cases h2 : r.2.h.get i with
    | none => rw [h1, h2] at this; cases this
    | some b => rw [h1, h2] at this; rw [sameO_eq this]

/-- What is kept of an outcome bears it. -/
theorem keep_ok {ρ ρ' : Rho} {S : AS} {w w' : World} {ids : List Nat} {r : AV × AS} {k : AV × Option (Nat × AObj)} {e : Ending} (hR : R Λ ρ S w) (hk : keepV S r = some k) (hin : ∀ i, i ∈ ids → r.2.h.get i = S.h.get i)
    (h0 : RetOk ρ' r.1 e) (h1 : R Λ ρ' r.2 w') (h2 : Kp ρ (cutS S ids) w ρ' r.2 w') :
    ∃ ρ'', RetOk ρ'' k.1 e ∧ R Λ ρ'' (laidS S r.2.next k.2) w' ∧ Kp ρ S w ρ'' (laidS S r.2.next k.2) w' := by
  -- which new place is kept
  obtain ⟨N, hN⟩ : ∃ N : Nat → Nat → Prop, ∃ _ : ∀ i g, Decidable (N i g), (k.1 = r.1 ∧ ∀ i g, N i g → S.next ≤ i) ∧
      ((k.2 = none ∧ flatF 3 r.1 = true ∧ ∀ i g, ¬ N i g) ∨ ∃ id g off len lim sz cap cells low frz ty, r.1 = .slice id g off len lim sz cap ∧ k.2 = some (id, .row cells g g frz ty) ∧ S.next ≤ id ∧
        r.2.h.get id = some (.row cells low g frz ty) ∧ low ≤ g ∧ flatL (flatF 2) cells = true ∧ ∀ i j, N i j ↔ i = id ∧ j = g) := by
    unfold keepV at hk
    split at hk
    · rename_i id g off len lim sz cap hv
      rw [nble] at hk
      by_cases hid : S.next ≤ id
      · rw [decide_eq_true hid] at hk
        simp only [cond_true] at hk
        split at hk
        · rename_i cells low top frz ty hrow
          cases hfl : (flatL (flatF 2) cells && Nat.beq g top && Nat.ble low top) with
          | false => rw [hfl] at hk; cases hk
          | true =>
            rw [hfl] at hk
            cases hk
            simp only [Bool.and_eq_true, nbeq, nble, decide_eq_true_eq] at hfl
            obtain ⟨⟨f1, rfl⟩, f3⟩ := hfl
            exact ⟨fun i j => i = id ∧ j = g, fun i j => inferInstance, ⟨rfl, fun i j hij => by rw [hij.1]; exact hid⟩, .inr ⟨id, g, off, len, lim, sz, cap, cells, low, frz, ty, hv, rfl, hid, hrow, f3, f1, fun i j => Iff.rfl⟩⟩
        · cases hk
      · rw [decide_eq_false hid] at hk; cases hk
    · rename_i hne
      cases hfl : flatF 3 r.1 with
      | false => rw [hfl] at hk; cases hk
      | true =>
        rw [hfl] at hk
        cases hk
        exact ⟨fun _ _ => False, fun i j => inferInstance, ⟨rfl, fun i g h => h.elim⟩, .inl ⟨rfl, rfl, fun i g h => h⟩⟩
  obtain ⟨hdec, ⟨hkv, hNge⟩, hkind⟩ := hN
  let ρ'' : Rho := fun i g => if i < S.next then ρ' i g else if N i g then ρ' i g else none
  have old : ∀ i g, i < S.next → ρ'' i g = ρ' i g := fun i g hi => if_pos hi
  have new : ∀ i g, S.next ≤ i → ρ'' i g = if N i g then ρ' i g else none := fun i g hi => if_neg (Nat.not_lt.2 hi)
  have sub : ∀ i g pl, ρ'' i g = some pl → ρ' i g = some pl := by
    intro i g pl h
    by_cases hi : i < S.next
    · rw [old i g hi] at h; exact h
    · rw [new i g (Nat.not_lt.1 hi)] at h
      split at h
      · exact h
      · cases h
  have hx : Ext ρ ρ'' := by
    intro i g pl hpl
    have hi : i < S.next := by
      rcases Nat.lt_or_ge i S.next with hh | hh
      · exact hh
      · rw [hR.fresh i g hh] at hpl; cases hpl
    rw [old i g hi]; exact h2.ext i g pl hpl
  -- what is not among the cut ones has not been touched
  have away : ∀ i, i ∉ ids → i < S.next → ∀ g, ρ' i g = ρ i g := fun i hi hlt g => (h2.resv i g hlt (by rw [cutS_get, if_neg hi])).1
  have notWrt : ∀ i o g pl, i ∉ ids → S.h.get i = some o → ρ i g = some pl → ¬ Wrt ρ (cutS S ids) pl.b := by
    rintro i o g pl hi ho hp ⟨j, oj, gj, plj, hoj, hz, hpj, e⟩
    obtain ⟨c1, c2⟩ := cutS_some hoj
    exact (hR.apart j i oj o gj g plj pl (fun e => hi (e ▸ c1)) c2 ho hpj hp).elim (fun h => h e) (fun h => hz h.1)
  have heap : ∀ i o g pl, i ∉ ids → S.h.get i = some o → ρ i g = some pl → w'.heap[pl.b]? = w.heap[pl.b]? := fun i o g pl hi ho hp => h2.keep pl.b (hR.lt i o g pl ho hp) (notWrt i o g pl hi ho hp)
  have objOld : ∀ i o, S.h.get i = some o → ORel ρ'' w' i o := by
    intro i o ho
    have hlt := hR.dom i o ho
    by_cases hi : i ∈ ids
    · exact ORel.restrict hx h2.ext (fun g => old i g hlt) (hR.objs i o ho) (h1.objs i o (by rw [hin i hi]; exact ho))
    · exact (hR.objs i o ho).keep hx fun g pl hp => heap i o g pl hi ho hp
  have getO : ∀ i, i < S.next → (laidS S r.2.next k.2).h.get i = S.h.get i := by
    intro i hi
    rcases hkind with ⟨e, _⟩ | ⟨id, g, off, len, lim, sz, cap, cells, low, frz, ty, _, e, hid, _⟩
    · rw [e]; rfl
    · rw [e]; exact get_set_ne _ _ (by omega)
  have nx : (laidS S r.2.next k.2).next = r.2.next := by
    cases k.2 with
    | none => rfl
    | some x => rfl
  have nle : S.next ≤ r.2.next := h2.next
  -- what it has
  have cases2 : ∀ i o, (laidS S r.2.next k.2).h.get i = some o → (i < S.next ∧ S.h.get i = some o) ∨ (S.next ≤ i ∧ ∃ g cells low frz ty, o = .row cells g g frz ty ∧ r.2.h.get i = some (.row cells low g frz ty) ∧ low ≤ g ∧ flatL (flatF 2) cells = true ∧ ∀ j, N i j ↔ j = g) := by
    intro i o ho
    rcases hkind with ⟨e, _, _⟩ | ⟨id, g, off, len, lim, sz, cap, cells, low, frz, ty, _, e, hid, e2, e3, e4, e5⟩
    · rw [e] at ho; exact .inl ⟨hR.dom i o ho, ho⟩
    · rw [e] at ho
      by_cases hi : i = id
      · subst hi
        have ho' : (S.h.set i (AObj.row cells g g frz ty)).get i = some o := ho
        rw [get_set_same] at ho'
        cases ho'
        exact .inr ⟨hid, g, cells, low, frz, ty, rfl, e2, e3, e4, fun j => by rw [e5]; simp⟩
      · have ho' : (S.h.set id (AObj.row cells g g frz ty)).get i = some o := ho
        rw [get_set_ne _ _ hi] at ho'
        exact .inl ⟨hR.dom i o ho', ho'⟩
  -- in r.2
  have inR2 : ∀ i o, (laidS S r.2.next k.2).h.get i = some o → (i ∈ ids ∨ S.next ≤ i) → ∃ o', r.2.h.get i = some o' := by
    intro i o ho hi
    rcases cases2 i o ho with ⟨hlt, hS⟩ | ⟨_, g, cells, low, frz, ty, _, e, _⟩
    · rcases hi with hi | hi
      · exact ⟨o, by rw [hin i hi]; exact hS⟩
      · omega
    · exact ⟨_, e⟩
  have mineR : ∀ b, Mine ρ'' (laidS S r.2.next k.2) b → Mine ρ S b ∨ Mine ρ' r.2 b := by
    rintro b ⟨i, o, g, pl, ho, hp, rfl⟩
    by_cases hi : i ∈ ids ∨ S.next ≤ i
    · obtain ⟨o', ho'⟩ := inR2 i o ho hi
      exact .inr ⟨i, o', g, pl, ho', sub i g pl hp, rfl⟩
    · rcases cases2 i o ho with ⟨hlt, hS⟩ | ⟨hge, _⟩
      · have hp' := sub i g pl hp
        rw [away i (fun e => hi (.inl e)) hlt] at hp'
        exact .inl ⟨i, o, g, pl, hS, hp', rfl⟩
      · exact absurd (.inr hge) hi
  have mineS : ∀ b, Mine ρ'' (laidS S r.2.next k.2) b → Mine ρ S b ∨ w.heap.size ≤ b := by
    intro b hb
    rcases mineR b hb with h | h
    · exact .inl h
    · rcases h2.mine b h with h3 | h3
      · exact .inl h3.cut
      · exact .inr h3
  have thaw : ∀ i o o', (laidS S r.2.next k.2).h.get i = some o → r.2.h.get i = some o' → (i ∈ ids ∨ S.next ≤ i) → Frz o' → Frz o := by
    intro i o o' ho ho' hi hf
    rcases cases2 i o ho with ⟨hlt, hS⟩ | ⟨_, g, cells, low, frz, ty, rfl, e, hle, _⟩
    · rcases hi with hi | hi
      · rw [hin i hi, hS] at ho'; cases ho'; exact hf
      · omega
    · rw [e] at ho'
      cases ho'
      obtain ⟨c, l, t, y, he⟩ := hf
      cases he
      exact ⟨cells, g - 1, g, ty, by rw [show g - 1 + 1 = g by omega]⟩
  have wrtR : ∀ b, Wrt ρ'' (laidS S r.2.next k.2) b → Wrt ρ S b ∨ Wrt ρ' r.2 b := by
    rintro b ⟨i, o, g, pl, ho, hz, hp, rfl⟩
    by_cases hi : i ∈ ids ∨ S.next ≤ i
    · obtain ⟨o', ho'⟩ := inR2 i o ho hi
      exact .inr ⟨i, o', g, pl, ho', fun hf => hz (thaw i o o' ho ho' hi hf), sub i g pl hp, rfl⟩
    · rcases cases2 i o ho with ⟨hlt, hS⟩ | ⟨hge, _⟩
      · have hp' := sub i g pl hp
        rw [away i (fun e => hi (.inl e)) hlt] at hp'
        exact .inl ⟨i, o, g, pl, hS, hz, hp', rfl⟩
      · exact absurd (.inr hge) hi
  have wrtS : ∀ b, Wrt ρ'' (laidS S r.2.next k.2) b → Wrt ρ S b ∨ w.heap.size ≤ b := by
    intro b hb
    rcases wrtR b hb with h | h
    · exact .inl h
    · rcases h2.wrt b h with h3 | h3
      · exact .inl h3.cut
      · exact .inr h3
  refine ⟨ρ'', ?_, ⟨?_, ?_, ?_, ?_, ?_, ?_, h1.start, ?_⟩, ⟨hx, h2.os, h2.tape, h2.output, h2.size, fun b hb hm => h2.keep b hb (fun h => hm h.cut), mineS, wrtS, by rw [nx]; exact nle, fun id g hi hn => ?_⟩⟩
  · -- the value
    rw [hkv]
    rcases h0.cases with ⟨hnp, x, rfl, hv⟩ | ⟨u, x, hu, _, _⟩
    · refine RetOk.of ?_
      rcases hkind with ⟨_, hfl, _⟩ | ⟨id, g, off, len, lim, sz, cap, cells, low, frz, ty, e, _, hid, _, _, _, e5⟩
      · exact flat_rel 3 r.1 x ρ' ρ'' hfl hv
      · rw [e] at hv ⊢
        simp only [VRel] at hv ⊢
        obtain ⟨pl, c, p1, rest⟩ := hv
        exact ⟨pl, c, by rw [new id g hid, if_pos ((e5 id g).2 ⟨rfl, rfl⟩)]; exact p1, rest⟩
    · exfalso
      rcases hkind with ⟨_, hfl, _⟩ | ⟨_, _, _, _, _, _, _, _, _, _, _, e, _⟩
      · rw [hu] at hfl; simp [flatF] at hfl
      · rw [hu] at e; cases e
  · -- objects
    intro i o ho
    rcases cases2 i o ho with ⟨hlt, hS⟩ | ⟨hge, g, cells, low, frz, ty, rfl, e, e3, e4, e5⟩
    · exact objOld i o hS
    · obtain ⟨a1, a2, a3⟩ := h1.objs i _ e
      refine ⟨Nat.le_refl _, fun j j1 j2 => ?_, fun j j' p q b1 b2 b3 b4 hp hq _ => ?_⟩
      · obtain rfl : j = g := by omega
        obtain ⟨pl, C, fr, q1, q2, q3, q4, q5, q6, q7, q8, q9⟩ := a2 j e3 (Nat.le_refl _)
        refine ⟨pl, C, fr, by rw [new i j hge, if_pos ((e5 j).2 rfl)]; exact q1, q2, q3, q4, q5, fun n hn => ?_, q7, q8, q9⟩
        obtain ⟨y, u, s1, s2, s3, s4⟩ := q6 n hn
        refine ⟨y, u, s1, s2, ?_, s4⟩
        have hf : flatF 2 y = true := by
          have gen : ∀ (l : List AV) (n : Nat) (y : AV), flatL (flatF 2) l = true → l[n]? = some y → flatF 2 y = true := by
            intro l
            induction l with
            | nil => intro n y _ h; simp at h
            | cons z l ih =>
              intro n y h hy
              simp only [flatL, Bool.and_eq_true] at h
              cases n with
              | zero => simp at hy; subst hy; exact h.1
              | succ n => exact ih n y h.2 (by simpa using hy)
          exact gen cells n y e4 s1
        exact flat_rel 2 y u ρ' ρ'' hf s3
      · obtain rfl : j = g := by omega
        obtain rfl : j' = j := by omega
        rw [hp] at hq; cases hq; rfl
  · intro i o ho
    rw [nx]
    rcases cases2 i o ho with ⟨hlt, _⟩ | ⟨_, g, cells, low, frz, ty, rfl, e, _⟩
    · omega
    · exact h1.dom i _ e
  · intro i g hi
    rw [nx] at hi
    have hge : S.next ≤ i := Nat.le_trans nle hi
    rw [new i g hge]
    split
    · exact h1.fresh i g hi
    · rfl
  · intro i c l t f y ho g hg
    rcases cases2 i _ ho with ⟨hlt, hS⟩ | ⟨hge, g', cells, low, frz, ty, e, e2, _, _, e5⟩
    · rw [old i g hlt]
      by_cases hi : i ∈ ids
      · exact h1.topg i c l t f y (by rw [hin i hi]; exact hS) g hg
      · rw [away i hi hlt]; exact hR.topg i c l t f y hS g hg
    · cases e
      rw [new i g hge, if_neg (fun h => by have := (e5 g).1 h; omega)]
  · intro i o g pl ho hp
    by_cases hi : i ∈ ids ∨ S.next ≤ i
    · obtain ⟨o', ho'⟩ := inR2 i o ho hi
      exact h1.lt i o' g pl ho' (sub i g pl hp)
    · rcases cases2 i o ho with ⟨hlt, hS⟩ | ⟨hge, _⟩
      · have hp' := sub i g pl hp
        rw [away i (fun e => hi (.inl e)) hlt] at hp'
        exact Nat.lt_of_lt_of_le (hR.lt i o g pl hS hp') h2.size
      · exact absurd (.inr hge) hi
  · intro i j o oj g gj pl plj hij ho hoj hp hpj
    have side : ∀ (i j : Nat) (o oj : AObj) (g gj : Nat) (pl plj : Pl), i ≠ j → (laidS S r.2.next k.2).h.get i = some o → (laidS S r.2.next k.2).h.get j = some oj → ρ'' i g = some pl → ρ'' j gj = some plj → ¬ (i ∈ ids ∨ S.next ≤ i) → pl.b ≠ plj.b ∨ (Frz o ∧ Frz oj) := by
      intro i j o oj g gj pl plj hij ho hoj hp hpj hi
      rcases cases2 i o ho with ⟨hlt, hS⟩ | ⟨hge, _⟩
      · have hp' := sub i g pl hp
        rw [away i (fun e => hi (.inl e)) hlt] at hp'
        have hpb := hR.lt i o g pl hS hp'
        by_cases hj : j ∈ ids ∨ S.next ≤ j
        · obtain ⟨o', ho'⟩ := inR2 j oj hoj hj
          by_cases hfj : Frz oj
          · by_cases hfo : Frz o
            · exact .inr ⟨hfo, hfj⟩
            · rcases h2.mine plj.b ⟨j, o', gj, plj, ho', sub j gj plj hpj, rfl⟩ with ⟨j2, o2, g2, pl2, ho2, hp2, e2⟩ | h3
              · obtain ⟨c1, c2⟩ := cutS_some ho2
                rcases hR.apart i j2 o o2 g g2 pl pl2 (fun e => hi (.inl (e ▸ c1))) hS c2 hp' hp2 with h4 | h4
                · exact .inl (by rw [← e2]; exact h4)
                · exact absurd h4.1 hfo
              · exact .inl (by omega)
          · rcases h2.wrt plj.b ⟨j, o', gj, plj, ho', fun hf => hfj (thaw j oj o' hoj ho' hj hf), sub j gj plj hpj, rfl⟩ with h3 | h3
            · refine .inl fun hb => notWrt i o g pl (fun e => hi (.inl e)) hS hp' ?_
              rw [hb]; exact h3
            · exact .inl (by omega)
        · rcases cases2 j oj hoj with ⟨hltj, hSj⟩ | ⟨hge, _⟩
          · have hpj' := sub j gj plj hpj
            rw [away j (fun e => hj (.inl e)) hltj] at hpj'
            exact hR.apart i j o oj g gj pl plj hij hS hSj hp' hpj'
          · exact absurd (.inr hge) hj
      · exact absurd (.inr hge) hi
    by_cases hi : i ∈ ids ∨ S.next ≤ i
    · by_cases hj : j ∈ ids ∨ S.next ≤ j
      · obtain ⟨o', ho'⟩ := inR2 i o ho hi
        obtain ⟨oj', hoj'⟩ := inR2 j oj hoj hj
        rcases h1.apart i j o' oj' g gj pl plj hij ho' hoj' (sub i g pl hp) (sub j gj plj hpj) with h4 | h4
        · exact .inl h4
        · exact .inr ⟨thaw i o o' ho ho' hi h4.1, thaw j oj oj' hoj hoj' hj h4.2⟩
      · rcases side j i oj o gj g plj pl (Ne.symm hij) hoj ho hpj hp hj with h4 | h4
        · exact .inl fun e => h4 e.symm
        · exact .inr ⟨h4.2, h4.1⟩
    · exact side i j o oj g gj pl plj hij ho hoj hp hpj hi
  · intro b hB
    obtain ⟨d1, d2, d3⟩ := h1.base b hB
    refine ⟨d1, d2, fun hm => ?_⟩
    rcases wrtR b hm with h | h
    · exact (hR.base b hB).2.2 h
    · exact d3 h
  · have hn' : (cutS S ids).h.get id = none := by
      rw [cutS_get]
      split
      · exact hn
      · rfl
    refine ⟨by rw [old id g hi]; exact (h2.resv id g hi hn').1, by rw [getO id hi]; exact hn⟩

theorem pureF_ok {P : Program} {cx : Cx} (hcx : CxOk Λ P cx) {n : Nat} (hc : CodeOk Λ P cx n) {ρ : Rho} {f : FuncId} {as : List AV} {S : AS} {w : World} {args : Array Value} {Post : Ending → World → Prop}
    (h : (pureF cx (exec cx n) f as S).All (PostOk Λ ρ S w Post)) (hR : R Λ ρ S w) (hl : LRel ρ as args.toList) : TgtOk P ρ args w Post (.fn f) := by
  unfold pureF at h
  cases hq : cx.pures.get f with
  | none => rw [hq] at h; exact fnF_ok hcx hc h hR hl
  | some u =>
    rw [hq] at h
    simp only [] at h
    generalize (List.rec (motive := fun _ => List Nat) [] (fun x _ r => appL (reachF S 4 x) r) as : List Nat) = ids at h
    refine fnF_ok hcx hc (S := cutS S ids) ?_ (hR.cut ids) hl
    generalize fnF cx (exec cx n) f as (cutS S ids) = res at h
    unfold pureR at h
    cases res with
    | err n => exact h
    | ok x xs =>
      simp only [] at h
      cases hk : keepV S x with
      | none => rw [hk] at h; exact h.elim
      | some k =>
        rw [hk] at h
        simp only [] at h
        cases c1 : (stayed S ids x && allL (stayed S ids) xs) with
        | false => rw [c1] at h; exact h.elim
        | true =>
        cases c2 : allL (fun y : AV × AS => Nat.beq y.2.next x.2.next) xs with
        | false => rw [c1, c2] at h; exact h.elim
        | true =>
        cases c3 : allL (keptAs S k) xs with
        | false => rw [c1, c2, c3] at h; exact h.elim
        | true =>
        rw [c1, c2, c3] at h
        have hp := h.1
        simp only [Bool.and_eq_true, allL_eq, List.all_eq_true] at c1 c2 c3
        have one : ∀ (y : AV × AS) (k' : AV × Option (Nat × AObj)), keepV S y = some k' → stayed S ids y = true → y.2.next = x.2.next → k' = k → PostOk Λ ρ (cutS S ids) w Post y := by
          rintro y k' e1 e2 e3 rfl ρ' e w' j0 j1 j2
          obtain ⟨ρ'', t1, t2, t3⟩ := keep_ok hR e1 (fun i hi => stayed_get e2 hi) j0 j1 j2
          rw [e3] at t2 t3
          exact hp ρ'' e w' t1 t2 t3
        refine ⟨one x k hk c1.1 rfl rfl, fun y hy => ?_⟩
        have h3 := c3 y hy
        unfold keptAs at h3
        cases hk' : keepV S y with
        | none => rw [hk'] at h3; cases h3
        | some k' =>
          rw [hk'] at h3
          refine one y k' hk' (c1.2 y hy) (by simpa [nbeq] using c2 y hy) ?_
          unfold sameK2 at h3
          rw [Bool.and_eq_true] at h3
          obtain ⟨s1, s2⟩ := h3
          obtain ⟨v, q⟩ := k
          obtain ⟨v', q'⟩ := k'
          simp only at s1 s2
          rw [sameVF_eq _ _ _ s1]
          cases q with
          | none => cases q' with
            | none => rfl
            | some _ => cases s2
          | some a => cases q' with
            | none => cases s2
            | some b =>
              simp only [Bool.and_eq_true, nbeq, decide_eq_true_eq] at s2
              obtain ⟨i, o⟩ := a
              obtain ⟨j, o'⟩ := b
              simp only at s2
              rw [s2.1, sameO_eq s2.2]

theorem callF_ok {P : Program} {cx : Cx} (hcx : CxOk Λ P cx) {n : Nat} (hc : CodeOk Λ P cx n) : KSound Λ P (callF cx (exec cx n)) := by
  intro ρ t as S w args Post h hR hl
  cases t with
  | fn f => exact pureF_ok hcx hc h hR hl
  | round id => exact roundF_ok hc h hR hl

/-! ### Scopes -/
theorem plain_seq (a b : Code) : plainC (.seq a b) = (plainC a && plainC b) := by
  show cond (plainC a) (plainC b) false = _
  cases plainC a <;> rfl
theorem plain_find : ∀ (c : Code) (l : Nat) (rest : Code), plainC c = true → findLabel c l = some rest → plainC rest = true := by
  intro c
  induction c with
  | seq a b iha ihb =>
    intro l rest hp h
    rw [plain_seq, Bool.and_eq_true] at hp
    rw [findLabel] at h
    cases ha : findLabel a l with
    | some r =>
      rw [ha] at h
      cases h
      rw [plain_seq, iha l r hp.1 ha, hp.2]; rfl
    | none =>
      rw [ha] at h
      exact ihb l rest hp.2 h
  | label l' =>
    intro l rest _ h
    rw [findLabel] at h
    split at h
    · cases h; rfl
    · cases h
  | skip => intro l rest _ h; rw [findLabel] at h <;> first | cases h | (intros; intro e; cases e)
  | ret => intro l rest _ h; rw [findLabel] at h <;> first | cases h | (intros; intro e; cases e)
  | exit id => intro l rest _ h; rw [findLabel] at h <;> first | cases h | (intros; intro e; cases e)
  | region id ops d => intro l rest _ h; rw [findLabel] at h <;> first | cases h | (intros; intro e; cases e)
  | cond x a b _ _ => intro l rest _ h; rw [findLabel] at h <;> first | cases h | (intros; intro e; cases e)
  | block id b _ => intro l rest _ h; rw [findLabel] at h <;> first | cases h | (intros; intro e; cases e)
  | loop b _ => intro l rest _ h; rw [findLabel] at h <;> first | cases h | (intros; intro e; cases e)
  | rangeFunc f p x y _ _ => intro l rest _ h; rw [findLabel] at h <;> first | cases h | (intros; intro e; cases e)
  | scope b _ => intro l rest _ h; rw [findLabel] at h <;> first | cases h | (intros; intro e; cases e)
  | goto t => intro l rest _ h; rw [findLabel] at h <;> first | cases h | (intros; intro e; cases e)
  | refuse s => intro l rest _ h; rw [findLabel] at h <;> first | cases h | (intros; intro e; cases e)

section
variable {P : Program} {b : Frame} {a : Act} {k : List Item} {cs : List Frame} {w : World}
theorem stepR_scope {c : Code} : step P (lone (b.atR a (.code (.scope c) :: k)) cs w) = .next (lone (b.atR a (.code c :: .inScope c :: k)) cs w) :=
  step_lone_go (by simp [stepG, stepG.exec, Frame.atR])
theorem stepR_inScope {c : Code} : step P (lone (b.atR a (.inScope c :: k)) cs w) = .next (lone (b.atR a k) cs w) :=
  step_lone_go (by simp [stepG, stepG.exec, Frame.atR])
end

/-- Code within a scope. -/
def InScope (ro : Option Nat) (P : Program) (body : Code) (Q : Exit → Act → World → Prop) (c : Code) (a : Act) (w : World) : Prop :=
  ∀ (b : Frame) (k : List Item) (cs : List Frame), b.roundOf = ro →
    ∃ e a' w', Q e a' w' ∧ ArrivesIn (Machine.fenced P (GF ro)) P (lone (b.atR a (.code c :: .inScope body :: k)) cs w) b k cs e a' w'
theorem wpIn_scope {ro : Option Nat} {P : Program} {body : Code} {Q : Exit → Act → World → Prop} {a : Act} {w : World} (h : InScope ro P body Q body a w) : (Code.scope body).wpIn (GF ro) 0 P Q a w := by
  intro b k cs hro hb hr
  rw [GF_round] at hro
  obtain ⟨e, a', w', hq, harr⟩ := h b k cs hro
  exact ⟨e, a', w', hq, .of_steps (.one (fenced_calm hb hr rfl) stepR_scope) harr⟩
theorem scopeF_ok {P : Program} {cx : Cx} {n : Nat} (hc : CodeOk Λ P cx n) {ro : Option Nat} {body : Code} (hp : ro = none ∨ plainC body = true) {Q : Exit → Act → World → Prop} :
    ∀ (m : Nat) (c : Code) (ρ : Rho) (F : Fr) (S : AS) (w : World) (a : Act), (ro = none ∨ plainC c = true) → R Λ ρ S w → FRel ρ F a →
    (scopeF (exec cx n) body m c F S).All (EndsOk Λ ρ S w Q) → InScope ro P body Q c a w := by
  intro m
  induction m with
  | zero => intro c ρ F S w a _ _ _ h; exact h.elim
  | succ m ih =>
    intro c ρ F S w a hpc hR hF h
    have h' : (Res.bind (exec cx n c F S) fun o => match o.ex with
      | .goto l => match findLabel body l with
        | some rest => scopeF (exec cx n) body m rest o.F o.S
        | none => .ok o []
      | _ => .ok o []).All (EndsOk Λ ρ S w Q) := h
    have key := hc ro c (fun e a' w' => match e with
      | .goto l => match findLabel body l with
        | some rest => InScope ro P body Q rest a' w'
        | none => Q (.goto l) a' w'
      | e => Q e a' w') ρ F S w a hpc hR hF ((Res.all_bind h').mono fun o ho ρ' e a' w' h0 h1 h2 h3 => by
        cases he : o.ex with
        | goto l =>
          rw [he] at ho h0
          cases h0
          simp only [] at ho ⊢
          cases hfl : findLabel body l with
          | none => rw [hfl] at ho; exact ho.1 ρ' (.goto l) a' w' (by rw [he]; rfl) h1 h2 h3
          | some rest =>
            rw [hfl] at ho
            exact ih rest ρ' o.F o.S w' a' (hp.imp id fun hb => plain_find body l rest hb hfl) h1 h2 (ho.mono fun q hq => hq.trans h3)
        | normal => rw [he] at ho h0; cases h0; exact ho.1 ρ' .normal a' w' (by rw [he]; rfl) h1 h2 h3
        | ret => rw [he] at ho h0; cases h0; exact ho.1 ρ' .ret a' w' (by rw [he]; rfl) h1 h2 h3
        | exit i => rw [he] at ho h0; cases h0; exact ho.1 ρ' (.exit i) a' w' (by rw [he]; rfl) h1 h2 h3
        | pan v => rw [he] at ho h0; obtain ⟨x, rfl, hx⟩ := h0; exact ho.1 ρ' _ a' w' (by rw [he]; exact ⟨x, rfl, hx⟩) h1 h2 h3)
    intro b k cs hro
    obtain ⟨e, a₁, w₁, hq, harr⟩ := key b (.inScope body :: k) cs (by rw [GF_round]; exact hro) (GF_fn ro _) (GF_room ro _)
    cases e with
    | normal => exact ⟨.normal, a₁, w₁, hq, StepsIn.trans harr (.one (fenced_calm (n := 0) (GF_fn ro _) (GF_room ro _) rfl) stepR_inScope)⟩
    | exit id => exact ⟨.exit id, a₁, w₁, hq, fun k' hk => harr.1 k' (by simp [exitTo, hk]), fun hr hk => harr.2 hr (by simp [exitTo, hk])⟩
    | goto l =>
      simp only [] at hq
      cases hfl : findLabel body l with
      | some rest =>
        rw [hfl] at hq
        have hg : gotoIn l (.inScope body :: k) = some (.code rest :: .inScope body :: k) := by simp [gotoIn, hfl]
        obtain ⟨e₂, a₂, w₂, hq₂, harr₂⟩ := hq b k cs hro
        exact ⟨e₂, a₂, w₂, hq₂, .of_steps (harr.1 _ hg) harr₂⟩
      | none =>
        rw [hfl] at hq
        have hg : gotoIn l (.inScope body :: k) = gotoIn l k := by simp [gotoIn, hfl]
        exact ⟨.goto l, a₁, w₁, hq, fun k' hk => harr.1 k' (by rw [hg]; exact hk), fun hr hk => harr.2 hr (by rw [hg]; exact hk)⟩
    | ret => exact ⟨_, a₁, w₁, hq, harr⟩
    | panic ch => exact ⟨_, a₁, w₁, hq, harr⟩
    | outgrown => exact ⟨_, a₁, w₁, hq, harr⟩

/-! ### A range over a function -/
theorem rangeF_ok {P : Program} {cx : Cx} (hcx : CxOk Λ P cx) {n : Nat} (hc : CodeOk Λ P cx n) {x : Operand} {ps : Array Tmp} {c d : Code} {Q : Exit → Act → World → Prop} {ρ : Rho} {F : Fr} {S : AS} {w : World} {a : Act}
    (hR : R Λ ρ S w) (hF : FRel ρ F a) (h : (rangeF cx (exec cx n) x ps c d F S).All (EndsOk Λ ρ S w Q)) : (Code.rangeFunc x ps c d).wpIn (GF none) 0 P Q a w := by
  unfold rangeF at h
  cases hpl : (plainC c && plainC d) with
  | false => rw [hpl] at h; exact h.elim
  | true =>
  rw [hpl] at h
  rw [Bool.and_eq_true] at hpl
  simp only [cond_true] at h
  split at h
  · rename_i g first captured he
    have hf := hF.eval x
    rw [he] at hf
    simp only [VRel] at hf
    obtain ⟨p, q, e, hp, hq⟩ := hf
    -- the two blocks
    have g1 : Grew (.deferred (some [])) w (w.alloc (.deferred (some []))) := ⟨⟨rfl, rfl, rfl⟩, rfl⟩
    obtain ⟨ρ1, pl1, a1, a2, a3, a4, a5⟩ := hR.newOth (x := .dfr true) g1 rfl
    refine wpIn_rangeFunc (F := GF none) fun fn _ => ?_
    have g2 : Grew (.loop { state := .ready, pending := none, fn := fn, tmps := a.tmps, params := ps, assign := c, body := d, defers := w.heap.size }) (w.alloc (.deferred (some [])))
      ((w.alloc (.deferred (some []))).alloc (.loop { state := .ready, pending := none, fn := fn, tmps := a.tmps, params := ps, assign := c, body := d, defers := w.heap.size })) := ⟨⟨rfl, rfl, rfl⟩, rfl⟩
    obtain ⟨ρ2, pl2, b1, b2, b3, b4, b5⟩ := a4.newOth (x := .loop .ready none F ps c d) g2 ⟨fn, a.tmps, w.heap.size, rfl, ⟨fun t => (hF.slot t).mono a5.ext _ _, hF.size⟩, hpl.1, hpl.2⟩
    have hk := a5.trans b5
    have hsz : (w.alloc (.deferred (some []))).heap.size = w.heap.size + 1 := g1.size
    have hb2 : pl2.b = w.heap.size + 1 := by rw [b2, hsz]
    have hK := callF_ok hcx hc
    have hargs : LRel ρ2 (appL first (.obj .yld (Nat.succ S.next) :: captured)) (p ++ #[Value.func (.yield pl2.b) #[] #[]] ++ q).toList := by
      rw [appL_eq]
      simp only [Array.toList_append, List.append_assoc]
      exact (hp.mono hk.ext).append (LRel.cons (by simp only [VRel]; exact ⟨pl2, b1, rfl⟩) (hq.mono hk.ext))
    have hh := hK ρ2 (.fn g) _ _ _ (p ++ #[Value.func (.yield pl2.b) #[] #[]] ++ q) (rangePost (GF none) 0 P pl2.b Q { a with defers := [{ target := .collected w.heap.size, args := #[] }] ++ a.defers }) ((Res.all_bind h).mono fun r hr ρ' e' w' r0 r1 r2 => ?_) b4 hargs
    · obtain ⟨⟨gn, hgn, hgb⟩, hcalls⟩ := hh
      refine ⟨pl2.b, _, _, ⟨.fn (.func g) q, p ++ #[Value.func (.yield pl2.b) #[] #[]]⟩, _, g, _, _, (by rw [hb2]; exact run_enterLoop_outer fn a.tmps ps c d), ?_, fun _ _ => trivial, hcx.enters g gn hgn hgb _ _, fun hd => GF_depth none hd, callsIn_GF (ro := none) hcalls⟩
      simp only [resolve, e, Deferred.ofValue, List.map_toArray, List.map_cons, List.map_nil]
      rfl
    · -- behind the call
      have hF2 : FRel ρ' ⟨F.t, F.n, .mark S.next :: F.ds⟩ { a with defers := [{ target := .collected w.heap.size, args := #[] }] ++ a.defers } :=
        ⟨fun t => (hF.slot t).mono (hk.trans r2).ext _ _, hF.size, _, a.defers, rfl, ⟨pl1, (b5.trans r2).ext _ _ _ a1, by rw [a2]⟩, hF.defers.mono (hk.trans r2).ext⟩
      have hr' : (rangeEnd (exec cx n) (Nat.succ S.next) ⟨F.t, F.n, .mark S.next :: F.ds⟩ r).All (EndsOk Λ ρ S w Q) := hr
      unfold rangeEnd at hr'
      rcases r0.cases with ⟨hnp, v, rfl, hv⟩ | ⟨u, v, hu, rfl, hv⟩
      · rw [notPan_not hnp] at hr'
        have hp2 := r2.ext _ _ _ b1
        split at hr'
        · exact hr'.elim
        · rename_i st j F' ps' x' y' hnb ho
          obtain ⟨fn', tmps', d', f1, _⟩ := loop_at r1 hp2 ho
          obtain ⟨t1, t2⟩ := r1.setLoop (st' := .exhausted) (j' := j) hp2 ho f1
          have hkk := (hk.trans r2).trans t2
          refine ⟨j, _, run_endLoop f1 (by
            show st ≠ .busy
            intro est
            subst est
            exact hnb rfl), ?_⟩
          cases j with
          | none => exact hr'.1 ρ' .normal _ _ rfl t1 hF2 hkk
          | some cj => exact hc none cj Q ρ' _ _ _ _ (.inl rfl) t1 hF2 (hr'.mono fun o hq => hq.trans hkk)
        · exact hr'.elim
      · rw [hu, notPan_pan] at hr'
        exact hr'.1 ρ' _ _ w' ⟨v, rfl, hv⟩ r1 hF2 (hk.trans r2)
  · exact h.elim

/-! ### Code -/
theorem code_ok {P : Program} {cx : Cx} (hcx : CxOk Λ P cx) (hd : DrawnOk Λ P cx) : ∀ n, CodeOk Λ P cx n ∧ LoopOk Λ P cx n := by
  intro n
  induction n with
  | zero => exact ⟨fun ro c Q ρ F S w a _ _ _ h => h.elim, fun ro c Q ρ F S w a _ _ _ h => h.elim⟩
  | succ n ih =>
    obtain ⟨ic, il⟩ := ih
    have hK := callF_ok hcx ic
    have loop : LoopOk Λ P cx (n + 1) := by
      intro ro b Q ρ F S w a hp hR hF h
      rw [roundsIn_succ]
      have h' : (Res.bind (exec cx n b F S) fun o => match o.ex with
        | .normal => exec cx n (.loop b) o.F o.S
        | _ => .ok o []).All (EndsOk Λ ρ S w Q) := h
      refine ic ro b _ ρ F S w a hp hR hF ((Res.all_bind h').mono fun o ho ρ' e a' w' h0 h1 h2 h3 => ?_)
      cases he : o.ex with
      | normal =>
        rw [he] at ho h0
        cases h0
        exact il ro b Q ρ' o.F o.S w' a' hp h1 h2 (ho.mono fun q hq => hq.trans h3)
      | exit i => rw [he] at ho h0; cases h0; exact ho.1 ρ' (.exit i) a' w' (by rw [he]; rfl) h1 h2 h3
      | ret => rw [he] at ho h0; cases h0; exact ho.1 ρ' .ret a' w' (by rw [he]; rfl) h1 h2 h3
      | goto l => rw [he] at ho h0; cases h0; exact ho.1 ρ' (.goto l) a' w' (by rw [he]; rfl) h1 h2 h3
      | pan v => rw [he] at ho h0; obtain ⟨x, rfl, hx⟩ := h0; exact ho.1 ρ' _ a' w' (by rw [he]; exact ⟨x, rfl, hx⟩) h1 h2 h3
    refine ⟨?_, loop⟩
    intro ro c Q ρ F S w a hp hR hF h
    cases c with
    | skip => exact wpIn_skip (h.1 ρ .normal a w rfl hR hF (Kp.refl _ _ _))
    | ret => exact wpIn_ret (h.1 ρ .ret a w rfl hR hF (Kp.refl _ _ _))
    | exit id => exact wpIn_exit (h.1 ρ (.exit id) a w rfl hR hF (Kp.refl _ _ _))
    | region id ops draw =>
      cases draw with
      | false =>
        refine wpIn_region ?_
        have h' : (Res.bind (runOps cx (callF cx (exec cx n)) ops.toList ops.toList F S) fun r => match r.1 with
          | none => (.ok ⟨.normal, r.2.1, r.2.2⟩ [] : Res Out)
          | some v => .ok ⟨.pan v, r.2.1, r.2.2⟩ []).All (EndsOk Λ ρ S w Q) := h
        have := runOps_wp (ro := ro) hcx hK (ops := ops) hp (Q := Q) ops.toList 0 ρ F S w a rfl hR hF ((Res.all_bind h').mono fun r hr ρ' e a' w' h0 h1 h2 h3 => by
          obtain ⟨pv, F', S'⟩ := r
          cases pv with
          | none => exact hr.1 ρ' e a' w' h0 h1 h2 h3
          | some v => exact hr.1 ρ' e a' w' h0 h1 h2 h3)
        rw [List.range_eq_range']
        simpa using this
      | true =>
        have h' : (Res.bind (runDrawn cx (callF cx (exec cx n)) ops.toList F S) fun r => match r.1 with
          | none => (.ok ⟨.normal, r.2.1, r.2.2⟩ [] : Res Out)
          | some v => .ok ⟨.pan v, r.2.1, r.2.2⟩ []).All (EndsOk Λ ρ S w Q) := h
        exact hd ro _ hK ops id Q ρ F S w a hR hF ((Res.all_bind h').mono fun r hr ρ' e a' w' h0 h1 h2 h3 => by
          obtain ⟨pv, F', S'⟩ := r
          cases pv with
          | none => exact hr.1 ρ' e a' w' h0 h1 h2 h3
          | some v => exact hr.1 ρ' e a' w' h0 h1 h2 h3)
    | seq x y =>
      have hp2 : (ro = none ∨ plainC x = true) ∧ (ro = none ∨ plainC y = true) := by
        rcases hp with hp | hp
        · exact ⟨.inl hp, .inl hp⟩
        · rw [plain_seq, Bool.and_eq_true] at hp; exact ⟨.inr hp.1, .inr hp.2⟩
      have h' : (Res.bind (exec cx n x F S) fun o => match o.ex with
        | .normal => exec cx n y o.F o.S
        | _ => .ok o []).All (EndsOk Λ ρ S w Q) := h
      refine wpIn_seq (ic ro x _ ρ F S w a hp2.1 hR hF ((Res.all_bind h').mono fun o ho ρ' e a' w' h0 h1 h2 h3 => ?_))
      cases he : o.ex with
      | normal =>
        rw [he] at ho h0
        cases h0
        exact ic ro y Q ρ' o.F o.S w' a' hp2.2 h1 h2 (ho.mono fun q hq => hq.trans h3)
      | exit i => rw [he] at ho h0; cases h0; exact ho.1 ρ' (.exit i) a' w' (by rw [he]; rfl) h1 h2 h3
      | ret => rw [he] at ho h0; cases h0; exact ho.1 ρ' .ret a' w' (by rw [he]; rfl) h1 h2 h3
      | goto l => rw [he] at ho h0; cases h0; exact ho.1 ρ' (.goto l) a' w' (by rw [he]; rfl) h1 h2 h3
      | pan v => rw [he] at ho h0; obtain ⟨z, rfl, hx⟩ := h0; exact ho.1 ρ' _ a' w' (by rw [he]; exact ⟨z, rfl, hx⟩) h1 h2 h3
    | cond x y z =>
      have hp2 : (ro = none ∨ plainC y = true) ∧ (ro = none ∨ plainC z = true) := by
        rcases hp with hp | hp
        · exact ⟨.inl hp, .inl hp⟩
        · have hp' : cond (plainC y) (plainC z) false = true := hp
          cases hy : plainC y with
          | false => rw [hy] at hp'; cases hp'
          | true => rw [hy] at hp'; exact ⟨.inr rfl, .inr hp'⟩
      have h' : (match eval F x with
        | .bool true => exec cx n y F S
        | .bool false => exec cx n z F S
        | _ => .err 3001).All (EndsOk Λ ρ S w Q) := h
      have hx := hF.eval x
      split at h'
      · rename_i he
        rw [he] at hx
        exact wpIn_cond_true (by simpa [VRel] using hx) (ic ro y Q ρ F S w a hp2.1 hR hF h')
      · rename_i he
        rw [he] at hx
        exact wpIn_cond_false (by simpa [VRel] using hx) (ic ro z Q ρ F S w a hp2.2 hR hF h')
      · exact h'.elim
    | block id b =>
      have h' : (Res.bind (exec cx n b F S) fun o => match o.ex with
        | .exit j => cond (Nat.beq j id) (.ok ⟨.normal, o.F, o.S⟩ []) (.ok o [])
        | _ => .ok o []).All (EndsOk Λ ρ S w Q) := h
      refine wpIn_block (ic ro b _ ρ F S w a hp hR hF ((Res.all_bind h').mono fun o ho ρ' e a' w' h0 h1 h2 h3 => ?_))
      cases he : o.ex with
      | normal => rw [he] at ho h0; cases h0; exact ho.1 ρ' .normal a' w' (by rw [he]; rfl) h1 h2 h3
      | ret => rw [he] at ho h0; cases h0; exact ho.1 ρ' .ret a' w' (by rw [he]; rfl) h1 h2 h3
      | goto l => rw [he] at ho h0; cases h0; exact ho.1 ρ' (.goto l) a' w' (by rw [he]; rfl) h1 h2 h3
      | pan v => rw [he] at ho h0; obtain ⟨z, rfl, hx⟩ := h0; exact ho.1 ρ' _ a' w' (by rw [he]; exact ⟨z, rfl, hx⟩) h1 h2 h3
      | exit j =>
        rw [he] at ho h0
        cases h0
        simp only [nbeq] at ho
        show Exit.inBlock id Q (.exit j) a' w'
        by_cases hj : j = id
        · rw [decide_eq_true hj] at ho
          simp only [Exit.inBlock, if_pos hj]
          exact ho.1 ρ' .normal a' w' rfl h1 h2 h3
        · rw [decide_eq_false hj] at ho
          simp only [Exit.inBlock, if_neg hj]
          exact ho.1 ρ' (.exit j) a' w' (by rw [he]; rfl) h1 h2 h3
    | loop b => exact wpIn_loop_rounds (n + 1) (loop ro b Q ρ F S w a hp hR hF h)
    | rangeFunc f p x y =>
      rcases hp with rfl | hp
      · exact rangeF_ok hcx ic hR hF h
      · cases hp
    | scope b => exact wpIn_scope (scopeF_ok (body := b) ic hp n b ρ F S w a hp hR hF h)
    | label l => exact wpIn_label (h.1 ρ .normal a w rfl hR hF (Kp.refl _ _ _))
    | goto l => exact wpIn_goto (h.1 ρ (.goto l) a w rfl hR hF (Kp.refl _ _ _))
    | refuse s => exact (h : False).elim

end Go.Am

namespace Go.Am
open Go

theorem eval_congr {F F' : Fr} {x : Operand} (h : ∀ t, x = .tmp t → F.t.get t = F'.t.get t) : eval F x = eval F' x := by
  cases x with
  | tmp t => rw [eval_slot, eval_slot, h t rfl]
  | _ => rfl
theorem bound_congr {F F' : Fr} {x : Option Operand} {d : Nat} (h : ∀ y, x = some y → eval F y = eval F' y) : bound F x d = bound F' x d := by
  cases x with
  | none => rfl
  | some y => simp only [bound, h y rfl]
theorem args_congr {F F' : Fr} {xs : Array Operand} (h : ∀ x, x ∈ xs.toList → eval F x = eval F' x) : args F xs = args F' xs := by
  simp only [args, mapL_eq]
  exact List.map_congr_left h
theorem fillL_congr {cx : Cx} {F F' : Fr} {pl : Nat → Option (Nat × Nat)} : ∀ (parts : List (Nat × Operand)) (cells : List AV), (∀ p, p ∈ parts → eval F p.2 = eval F' p.2) → fillL cx F pl parts cells = fillL cx F' pl parts cells := by
  intro parts
  induction parts with
  | nil => intro cells _; rfl
  | cons p parts ih =>
    intro cells h
    show (match pl p.1, cellsOf (eval F p.2) with
      | some (off, size), some new => cond (Nat.beq (lenL new) size && Nat.ble (Nat.add off size) (lenL cells)) (fillL cx F pl parts (splice off cells new)) none
      | _, _ => none) = (match pl p.1, cellsOf (eval F' p.2) with
      | some (off, size), some new => cond (Nat.beq (lenL new) size && Nat.ble (Nat.add off size) (lenL cells)) (fillL cx F' pl parts (splice off cells new)) none
      | _, _ => none)
    rw [h p (by simp)]
    split
    · rw [ih _ (fun q hq => h q (by simp [hq]))]
    · rfl
theorem buildV_congr {cx : Cx} {F F' : Fr} {t : TypeId} {parts : List (Nat × Operand)} (h : ∀ p, p ∈ parts → eval F p.2 = eval F' p.2) : buildV cx F t parts = buildV cx F' t parts := by
  unfold buildV
  simp only [fillL_congr parts _ h]
theorem sliceV_congr {cx : Cx} {F F' : Fr} {t : TypeId} {x : AV} {lo hi mx : Option Operand} (h1 : ∀ y, lo = some y → eval F y = eval F' y) (h2 : ∀ y, hi = some y → eval F y = eval F' y) (h3 : ∀ y, mx = some y → eval F y = eval F' y) :
    sliceV cx F t x lo hi mx = sliceV cx F' t x lo hi mx := by
  unfold sliceV bounds
  simp only [bound_congr h1, bound_congr h2, bound_congr h3]

theorem freshV_congr {cx : Cx} {F F' : Fr} {id : Nat} {op : Op} (h : ∀ x, x ∈ op.operands.toList → eval F x = eval F' x) : freshV cx F id op = freshV cx F' id op := by
  cases op <;> (try rfl)
  case box t x => simp only [freshV, h x (by simp [Op.operands])]
  case buildSlice t n parts =>
    have hp : ∀ p, p ∈ parts.toList → eval F p.2 = eval F' p.2 := fun p hp => h p.2 (by simp only [Op.operands]; simpa using ⟨p.1, by simpa using hp⟩)
    simp only [freshV, fillL_congr parts.toList _ hp]
  case makeMap t r =>
    have : hintOk F r = hintOk F' r := by
      cases r with
      | none => rfl
      | some x => simp only [hintOk, h x (by simp [Op.operands])]
    simp only [freshV, this]
  case makeSlice t l c => simp only [freshV, h l (by simp [Op.operands]), h c (by simp [Op.operands])]

theorem aop_congr {cx : Cx} {F F' : Fr} {S : AS} {o : Oper} (h : ∀ x, x ∈ o.op.operands.toList → eval F x = eval F' x) : aop cx F S o = aop cx F' S o := by
  obtain ⟨dst, op, ty, pos, after, guard⟩ := o
  simp only at h
  cases op <;> (try rfl)
  case move x => simp only [aop, h x (by simp [Op.operands])]
  case assign x => simp only [aop, h x (by simp [Op.operands])]
  case pick c a b => simp only [aop, h c (by simp [Op.operands]), h a (by simp [Op.operands]), h b (by simp [Op.operands])]
  case box t x => simp only [aop, freshV_congr h]
  case build t parts =>
    have hp : ∀ p, p ∈ parts.toList → eval F p.2 = eval F' p.2 := fun p hp => h p.2 (by simp only [Op.operands]; simpa using ⟨p.1, by simpa using hp⟩)
    simp only [aop, buildV_congr hp]
  case buildSlice t n parts => simp only [aop, freshV_congr h]
  case load t x => simp only [aop, h x (by simp [Op.operands])]
  case store t x y => simp only [aop, h x (by simp [Op.operands]), h y (by simp [Op.operands])]
  case nilCheck x => simp only [aop, h x (by simp [Op.operands])]
  case binOp op t x y yt => simp only [aop, h x (by simp [Op.operands]), h y (by simp [Op.operands])]
  case unOp op t x => simp only [aop, h x (by simp [Op.operands])]
  case convert s d x => simp only [aop, h x (by simp [Op.operands])]
  case makeInterface t x => simp only [aop, h x (by simp [Op.operands])]
  case makeFunc fn a b =>
    have h1 := args_congr (F := F) (F' := F') (xs := a) fun x hx => h x (by simp only [Op.operands]; simp at hx ⊢; exact .inl hx)
    have h2 := args_congr (F := F) (F' := F') (xs := b) fun x hx => h x (by simp only [Op.operands]; simp at hx ⊢; exact .inr hx)
    simp only [aop, h1, h2]
  case makeMap t r => simp only [aop, freshV_congr h]
  case makeSlice t l c => simp only [aop, freshV_congr h]
  case slice t x lo hi mx =>
    have h0 := h x (by simp [Op.operands])
    have h1 : ∀ y, lo = some y → eval F y = eval F' y := fun y e => h y (by simp [Op.operands, e])
    have h2 : ∀ y, hi = some y → eval F y = eval F' y := fun y e => h y (by simp [Op.operands, e])
    have h3 : ∀ y, mx = some y → eval F y = eval F' y := fun y e => h y (by simp [Op.operands, e])
    simp only [aop, h0, sliceV_congr h1 h2 h3]
  case fieldAddr t x f => simp only [aop, h x (by simp [Op.operands])]
  case field t x f => simp only [aop, h x (by simp [Op.operands])]
  case indexAddr t x i => simp only [aop, h x (by simp [Op.operands]), h i (by simp [Op.operands])]
  case index t x i => simp only [aop, h x (by simp [Op.operands]), h i (by simp [Op.operands])]
  case lookup t x i ok => simp only [aop, h x (by simp [Op.operands]), h i (by simp [Op.operands])]
  case mapUpdate t m k v => simp only [aop, h m (by simp [Op.operands]), h k (by simp [Op.operands]), h v (by simp [Op.operands])]
  case insert t m k v => simp only [aop, h m (by simp [Op.operands]), h k (by simp [Op.operands]), h v (by simp [Op.operands])]
  case mapEntry t m k => simp only [aop, h m (by simp [Op.operands]), h k (by simp [Op.operands])]
  case entryStore t m k v => simp only [aop, h m (by simp [Op.operands]), h k (by simp [Op.operands]), h v (by simp [Op.operands])]
  case range t x => simp only [aop, h x (by simp [Op.operands])]
  case next x s => simp only [aop, h x (by simp [Op.operands])]
  case entry x => simp only [aop, h x (by simp [Op.operands])]
  case panic x => simp only [aop, h x (by simp [Op.operands])]
  case typeAssert x a b ok => simp only [aop, h x (by simp [Op.operands])]
  case extract x i => simp only [aop, h x (by simp [Op.operands])]
  case call c =>
    obtain ⟨callee, as, ats⟩ := c
    have h1 := args_congr (F := F) (F' := F') (xs := as) fun x hx => h x (by simp only [Op.operands, Call.operands]; simp at hx ⊢; exact .inr hx)
    cases callee with
    | value f => 
      have h0 := h f (by simp [Op.operands, Call.operands])
      simp only [aop, h0, h1]
    | builtin b => simp only [aop, h1]
    | invoke r m => rfl

theorem sees_eval {F F' : Fr} {ops : List Oper} {o : Oper} (h : ∀ t, t ∈ seesL ops o → F.t.get t = F'.t.get t) : ∀ x, x ∈ o.op.operands.toList → eval F x = eval F' x := by
  intro x hx
  refine eval_congr fun t e => h t ?_
  subst e
  have : t ∈ opReads o := List.mem_filterMap.2 ⟨.tmp t, hx, rfl⟩
  unfold seesL
  split
  · exact this
  · split
    · split
      · exact List.mem_cons_of_mem _ this
      · exact this
    · exact this
theorem wanted_congr {F F' : Fr} {ops : List Oper} {o : Oper} (h : ∀ t, t ∈ seesL ops o → F.t.get t = F'.t.get t) : wanted ops F o = wanted ops F' o := by
  unfold wanted
  unfold seesL at h
  cases hg : o.guard with
  | none => rfl
  | some jw =>
    obtain ⟨j, want⟩ := jw
    simp only [hg] at h ⊢
    cases hn : nth j ops with
    | none => rfl
    | some p =>
      simp only [hn] at h ⊢
      cases hd : p.dst with
      | none => rfl
      | some d =>
        simp only [hd] at h ⊢
        rw [h d (by simp)]

/-- Is the state the one that was? For the classes that do not act. -/
theorem aop_same {cx : Cx} {F : Fr} {S S' : AS} {o : Oper} {v : AV} (hc : clsOf cx o = .pure ∨ clsOf cx o = .read) (h : aop cx F S o = .val v S') : S' = S := by
  obtain ⟨dst, op, ty, pos, after, guard⟩ := o
  have fr : ∀ r n, freshR r S n = .val v S' → ∃ u o, r = some (u, o) := fun r n e => by cases r with
    | none => cases e
    | some x => exact ⟨x.1, x.2, rfl⟩
  cases op <;> simp only [clsOf, reduceCtorEq, or_self] at hc <;> simp only [aop] at h
  case move x => cases h; rfl
  case assign x => cases h; rfl
  case pick c a b => split at h <;> first | (cases h; rfl) | cases h
  case build t parts => exact (val?_eq h).2
  case load t x =>
    split at h
    · repeat (split at h <;> try (first | (cases h; done) | (cases h; rfl)))
    · split at h
      · exact (val?_eq h).2
      · cases h
    · cases h
  case typeAssert x a b ok => exact (val?_eq h).2
  case nilCheck x => split at h <;> first | (cases h; rfl) | cases h
  case binOp op t x y yt => exact (val?_eq h).2
  case unOp op t x => exact (val?_eq h).2
  case convert s d x =>
    split at h
    · cases h; rfl
    · cases h; rfl
    · rename_i ds e s' hu1 hu2 he
      rw [hu2] at hc
      simp at hc
    · repeat (split at h <;> try (first | (cases h; done) | (cases h; rfl)))
    · rename_i hu2 _
      rw [hu2] at hc
      simp at hc
    · rename_i hu2 _
      rw [hu2] at hc
      simp at hc
    · rename_i hu2 _
      rw [hu2] at hc
      simp at hc
    · cases h
  case makeInterface t x => split at h <;> first | (cases h; rfl) | cases h
  case makeFunc fn a b => cases h; rfl
  case slice t x lo hi mx => exact (val?_eq h).2
  case fieldAddr t x f => repeat (split at h <;> try (first | (cases h; done) | (cases h; rfl)))
  case field t x f =>
    split at h
    · split at h
      · exact (val?_eq h).2
      · cases h
    · cases h
  case indexAddr t x i =>
    split at h
    · split at h
      · cases hc : (Nat.beq _ _ && Nat.blt _ _) with
        | false => rw [hc] at h; cases h
        | true => rw [hc] at h; cases h; rfl
      · cases h
    · split at h
      · cases hc : Nat.blt _ _ with
        | false => rw [hc] at h; cases h
        | true => rw [hc] at h; cases h; rfl
      · cases h
    · split at h
      · cases hc : Nat.blt _ _ with
        | false => rw [hc] at h; cases h
        | true => rw [hc] at h; cases h; rfl
      · cases h
    · cases h
  case index t x i =>
    split at h
    · split at h <;> first | (cases h; rfl) | cases h
    · split at h
      · cases hc : Nat.blt _ _ with
        | false => rw [hc] at h; cases h
        | true => rw [hc] at h; exact (val?_eq h).2
      · cases h
    · cases h
  case lookup t x i ok => exact (val?_eq h).2
  case extract x i =>
    split at h
    · exact (val?_eq h).2
    · cases h
  case call c =>
    obtain ⟨callee, as, ats⟩ := c
    cases callee with
    | value f => simp at hc
    | invoke r m => simp at hc
    | builtin b =>
      have hb : b = .len ∨ b = .cap ∨ b = .min ∨ b = .max := by cases b <;> simp_all
      simp only [] at h
      unfold builtinV at h
      rcases hb with rfl | rfl | rfl | rfl <;> clear hc <;> split at h <;> (try contradiction) <;> (try (cases h; done))
      · split at h <;> first | (cases h; rfl) | (cases h; done)
      · split at h <;> first | (cases h; rfl) | (cases h; done)
      · exact (val?_eq h).2
      · exact (val?_eq h).2

/-- .. and what only reckons does not look at memory. -/
theorem aop_pure {cx : Cx} {F : Fr} {S S2 : AS} {o : Oper} {v : AV} (hc : clsOf cx o = .pure) (h : aop cx F S o = .val v S) : aop cx F S2 o = .val v S2 := by
  obtain ⟨dst, op, ty, pos, after, guard⟩ := o
  have vv : ∀ (r : Option AV) (n : Nat), val? r S n = .val v S → val? r S2 n = .val v S2 := fun r n e => by
    obtain ⟨rfl, _⟩ := val?_eq e; rfl
  cases op <;> simp only [clsOf, reduceCtorEq] at hc <;> simp only [aop] at h ⊢
  case move x => cases h; rfl
  case assign x => cases h; rfl
  case pick c a b => split at h <;> first | (cases h; rfl) | cases h
  case build t parts => exact vv _ _ h
  case load t x =>
    cases x with
    | global g =>
      simp only [eval_glob] at h ⊢
      split at h
      · exact vv _ _ h
      · cases h
    | tmp t => cases hc
    | const v => cases hc
    | func f => cases hc
  case nilCheck x => split at h <;> first | (cases h; rfl) | cases h
  case binOp op t x y yt => exact vv _ _ h
  case unOp op t x => exact vv _ _ h
  case convert s d x =>
    split at h
    · cases h; rfl
    · rename_i ds s' hu1 hu2 he
      rw [hu2] at hc; simp at hc
    · rename_i ds e s' hu1 hu2 he
      rw [hu2] at hc; simp at hc
    · rename_i xx e hu1 hu2 hno
      rw [hu2] at hc; simp at hc
    · rename_i hu2 _
      rw [hu2] at hc; simp at hc
    · rename_i hu2 _
      rw [hu2] at hc; simp at hc
    · rename_i hu2 _
      rw [hu2] at hc; simp at hc
    · cases h
  case typeAssert x a b ok => exact vv _ _ h
  case makeInterface t x => split at h <;> first | (cases h; rfl) | cases h
  case makeFunc fn a b => cases h; rfl
  case slice t x lo hi mx => exact vv _ _ h
  case fieldAddr t x f =>
    split at h
    · split at h
      · split at h
        · cases h; rfl
        · cases h
      · cases h
    · cases h
  case field t x f =>
    split at h
    · split at h
      · exact vv _ _ h
      · cases h
    · cases h
  case indexAddr t x i =>
    split at h
    · split at h
      · cases hc : (Nat.beq _ _ && Nat.blt _ _) with
        | false => rw [hc] at h; cases h
        | true => rw [hc] at h; cases h; rfl
      · cases h
    · split at h
      · cases hc : Nat.blt _ _ with
        | false => rw [hc] at h; cases h
        | true => rw [hc] at h; cases h; rfl
      · cases h
    · split at h
      · cases hc : Nat.blt _ _ with
        | false => rw [hc] at h; cases h
        | true => rw [hc] at h; cases h; rfl
      · cases h
    · cases h
  case index t x i =>
    split at h
    · split at h <;> first | (cases h; rfl) | cases h
    · split at h
      · cases hc : Nat.blt _ _ with
        | false => rw [hc] at h; cases h
        | true => rw [hc] at h; exact vv _ _ h
      · cases h
    · cases h
  case extract x i =>
    split at h
    · exact vv _ _ h
    · cases h
  case call c =>
    obtain ⟨callee, as, ats⟩ := c
    cases callee with
    | value f => simp at hc
    | invoke r m => simp at hc
    | builtin b =>
      have hb : b = .cap ∨ b = .min ∨ b = .max := by cases b <;> simp_all
      simp only [] at h ⊢
      unfold builtinV at h ⊢
      rcases hb with rfl | rfl | rfl <;> clear hc <;> split at h <;> (try contradiction) <;> (try (cases h; done))
      · split at h <;> first | (cases h; rfl) | (cases h; done)
      · exact vv _ _ h
      · exact vv _ _ h
end Go.Am
