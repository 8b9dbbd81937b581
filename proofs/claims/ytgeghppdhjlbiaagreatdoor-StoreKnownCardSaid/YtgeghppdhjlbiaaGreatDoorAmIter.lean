/-
  The abstract machine: a range over a map, all its orders.
  The abstract machine: a function with several outcomes that all lay the same row becomes one that the machine need not enter.
-/
import Derived.Test.YtgeghppdhjlbiaaGreatDoorAmEach
namespace Go.Am
open Go
set_option linter.unusedVariables false

/-- Entries born at different times, all ahead of the clock. -/
def MapWf (es : List AEnt) (clock : Nat) : Prop := (∀ e, e ∈ es → e.born < clock) ∧ es.Pairwise fun a b => a.born ≠ b.born
theorem isNilL_eq {α : Type} (l : List α) : isNilL l = l.isEmpty := by cases l <;> rfl
variable {S : AS} {id m : Nat} {seen : List Nat} {es : List AEnt} {clock : Nat}
theorem nextM_cases (hw : MapWf es clock) :
    nextM S id m clock seen clock es clock ≠ [] ∧ ∀ y, y ∈ nextM S id m clock seen clock es clock →
      (y = (.tuple [.bool false], S) ∧ ∀ e, e ∈ es → e.born ∈ seen) ∨ ∃ e, e ∈ es ∧ e.born ∉ seen ∧ y = Am.stepE S id m clock seen clock e := by
  have h1 : (!isNilL seen && (!isNilL es && allL (fun e => Nat.ble clock e.born) es)) = false := by
    cases es with
    | nil => simp [isNilL]
    | cons e es =>
      have := hw.1 e (List.mem_cons_self ..)
      have : Nat.ble clock e.born = false := by rw [nble]; simp; omega
      rw [allL_eq]
      simp [this]
  have hnew : (es.filter fun e => !memN e.born seen).filter (fun e => !Nat.blt e.born clock) = [] := by
    rw [List.filter_eq_nil_iff]
    intro e he
    have := hw.1 e (List.mem_filter.1 he).1
    have hb : Nat.blt e.born clock = true := by
      show Nat.ble (Nat.succ e.born) clock = true
      rw [nble]; simp; omega
    simp [hb]
  have hold : (es.filter fun e => !memN e.born seen).filter (fun e => Nat.blt e.born clock) = es.filter fun e => !memN e.born seen := by
    rw [List.filter_eq_self]
    intro e he
    have := hw.1 e (List.mem_filter.1 he).1
    show Nat.ble (Nat.succ e.born) clock = true
    rw [nble]; simp; omega
  unfold nextM
  rw [h1]
  simp only [cond_false, filL_eq, hold, hnew, appL_eq, List.append_nil, mapL_eq, isNilL_eq]
  cases hl : es.filter fun e => !memN e.born seen with
  | nil =>
    simp only [List.isEmpty_nil, cond_true, List.map_nil]
    refine ⟨by simp, fun y hy => .inl ⟨by simpa using hy, fun e he => ?_⟩⟩
    have := List.filter_eq_nil_iff.1 hl e he
    rw [memN_eq] at this
    simpa using this
  | cons z l =>
    simp only [List.isEmpty_cons, cond_false]
    refine ⟨by simp, fun y hy => .inr ?_⟩
    obtain ⟨e, he, rfl⟩ := List.mem_map.1 hy
    rw [← hl] at he
    obtain ⟨q1, q2⟩ := List.mem_filter.1 he
    rw [memN_eq] at q2
    exact ⟨e, q1, by simpa using q2, rfl⟩
theorem findB_of (hw : es.Pairwise fun a b => a.born ≠ b.born) {e : AEnt} (he : e ∈ es) : ∀ i, ∃ j, findB e.born es i = some (j, e) := by
  induction es with
  | nil => cases he
  | cons z es ih =>
    intro i
    obtain ⟨h1, h2⟩ := List.pairwise_cons.1 hw
    have u : findB e.born (z :: es) i = cond (Nat.beq z.born e.born) (some (i, z)) (findB e.born es (Nat.succ i)) := rfl
    rw [u, nbeq]
    rcases List.mem_cons.1 he with rfl | he
    · simp
    · have := h1 e he
      simp only [this, decide_false, cond_false]
      exact ih h2 he _

/-! ### Rules -/
section
variable {cx : Cx} {F : Fr} {dst : Option Tmp} {ty : TypeId} {pos : String} {af : Array Edge} {g : Option (Nat × Bool)}
theorem callV_yld {id : Nat} {as : List AV} : callV cx S (.obj .yld id) as = .round id as S := rfl
theorem aop_range {t : TypeId} {x : Operand} : aop cx F S ⟨dst, .range t x, ty, pos, af, g⟩ = vals? (rangeV cx S t (eval F x)) 88 := rfl
theorem aop_next {x : Operand} {s : Bool} : aop cx F S ⟨dst, .next x s, ty, pos, af, g⟩ = nextV S (eval F x) s := rfl
theorem aop_entry {x : Operand} : aop cx F S ⟨dst, .entry x, ty, pos, af, g⟩ = val? (entryV S (eval F x)) S 89 := rfl
theorem rangeV_map {t a b : TypeId} {id : Nat} {es : List AEnt} {clock : Nat} (hu : und cx t = some (.map a b)) (h : S.h.get id = some (.map es clock)) :
    rangeV cx S t (.map id) = some (.ptr S.next 0 0 0, ⟨S.h.set S.next (.oth (.iter (some id) clock [] clock)), Nat.succ S.next⟩) := by
  unfold rangeV
  rw [hu]
  simp only [h]
theorem nextV_map {i m since last l : Nat} {seen : List Nat} (h1 : S.h.get i = some (.oth (.iter (some m) since seen last))) (h2 : S.h.get m = some (.map es clock)) :
    nextV S (.ptr i 0 0 l) false = .many (nextM S i m since seen last es clock) := by
  unfold nextV
  simp only [h1, h2]
  rfl
theorem entryV_map {i m since l b : Nat} {seen : List Nat} {e : AEnt} (h1 : S.h.get i = some (.oth (.iter (some m) since (b :: seen) clock))) (h2 : S.h.get m = some (.map es clock)) (hw : es.Pairwise fun a b => a.born ≠ b.born) (he : e ∈ es) (hb : e.born = b) :
    entryV S (.ptr i 0 0 l) = some (.tuple [e.key, e.val]) := by
  subst hb
  obtain ⟨j, hj⟩ := findB_of hw he 0
  unfold entryV
  simp only [h1, h2, nbeq, decide_true, cond_true, hj]
end
end Go.Am

namespace Go.Am
open Go
set_option linter.unusedVariables false

theorem calls_ofE {Λ : LB} {P : Program} {A : Ask} (h : Ready P A) (hp : ∀ x, x ∈ A.prims → PrimOk Λ P x.1 x.2) (hg : ∀ x, x ∈ A.globs → GlobOk Λ.w Λ.B x.1 x.2) {ρ : Rho} {f : FuncId} {as : List AV} {S : AS} {w : World} {args : Array Value}
    (hR : R Λ ρ S w) (hl : LRel ρ as args.toList) {Q : AV → AS → Prop} (hc : CallE (mkCx P A) f as S Q) :
    (∃ fn, P.funcs[f]? = some fn ∧ fn.body.isSome = true) ∧ Calls P f args w fun e w' => ∃ x v S' ρ', e = .returned x ∧ VRel ρ' v x ∧ isPanB v = false ∧ Q v S' ∧ R Λ ρ' S' w' ∧ Kp ρ S w ρ' S' w' := by
  obtain ⟨n, hc⟩ := hc
  have hcx := cx_ok h hp hg
  have hK := callF_ok hcx (code_ok hcx (drawn_ok hcx h.mixed) n).1
  refine hK ρ (.fn f) as S w args (fun e w' => ∃ x v S' ρ', e = .returned x ∧ VRel ρ' v x ∧ isPanB v = false ∧ Q v S' ∧ R Λ ρ' S' w' ∧ Kp ρ S w ρ' S' w') (hc.mono fun r hr ρ' e w' h1 h2 h3 => ?_) hR hl
  rcases h1.cases with ⟨_, x, rfl, hx⟩ | ⟨u, x, hu, _, _⟩
  · exact ⟨x, r.1, r.2, ρ', rfl, hx, hr.1, hr.2, h2, h3⟩
  · have := hr.1
    rw [hu] at this
    cases this
/-- Each outcome's kept part is the same; so the call is as good as one that lays just that. -/
theorem prim_kept {Λ : LB} {P : Program} {A : Ask} (hr : Ready P A) (hp : ∀ x, x ∈ A.prims → PrimOk Λ P x.1 x.2) (hg : ∀ x, x ∈ A.globs → GlobOk Λ.w Λ.B x.1 x.2) {f : FuncId} {q : List AV → AS → Option (AV × AS)}
    (h : ∀ as S v S', q as S = some (v, S') → ∃ (ids : List Nat) (k : AV × Option (Nat × AObj)) (N : Nat), v = k.1 ∧ S' = laidS S N k.2 ∧ S.next ≤ N ∧ (∀ i o, k.2 = some (i, o) → S.next ≤ i ∧ i < N ∧ ∃ cells t y, o = .row cells t t false y ∧ flatL (flatF 2) cells = true) ∧
      CallE (mkCx P A) f as (cutS S ids) fun v' T => keepV S (v', T) = some k ∧ (∀ i, i ∈ ids → T.h.get i = S.h.get i) ∧ N ≤ T.next) : PrimOk Λ P f q := by
  intro ρ as S w args v S' hR hl hq
  obtain ⟨ids, k, N, rfl, rfl, hN, hrow, hc⟩ := h as S v S' hq
  obtain ⟨k1, k2⟩ := calls_ofE hr hp hg (hR.cut ids) hl hc
  refine ⟨k1, k2.mono ?_⟩
  rintro e w' ⟨x, v', T, ρ', rfl, h1, hnp, ⟨h2, h3, h4⟩, h5, h6⟩
  have hret : RetOk ρ' (v', T).1 (.returned x) := by
    cases v' <;> first | exact ⟨x, rfl, h1⟩ | cases hnp
  obtain ⟨ρ2, g1, g2, g3⟩ := keep_ok (r := (v', T)) hR h2 h3 hret h5 h6
  have hv : VRel ρ2 k.1 x := by
    rcases g1.cases with ⟨_, y, hy, hx⟩ | ⟨u, y, hu, hy, _⟩
    · cases hy; exact hx
    · cases hy
  have hh : (laidS S N k.2).h = (laidS S T.next k.2).h := by cases k.2 <;> rfl
  have hn3 : (laidS S N k.2).next = N := by cases k.2 <;> rfl
  have hn2 : (laidS S T.next k.2).next = T.next := by cases k.2 <;> rfl
  have hget : ∀ i o, (laidS S N k.2).h.get i = some o → (i < S.next ∧ S.h.get i = some o) ∨ (S.next ≤ i ∧ i < N ∧ ∃ cells t y, o = .row cells t t false y ∧ flatL (flatF 2) cells = true) := by
    intro i o ho
    cases hk : k.2 with
    | none => rw [hk] at ho; exact .inl ⟨hR.dom i o ho, ho⟩
    | some jx =>
      obtain ⟨j, y⟩ := jx
      rw [hk] at ho
      obtain ⟨r1, r2, r3⟩ := hrow j y hk
      by_cases hij : i = j
      · subst hij
        have : (S.h.set i y).get i = some o := ho
        rw [get_set_same] at this
        cases this
        exact .inr ⟨r1, r2, r3⟩
      · have : (S.h.set j y).get i = some o := ho
        rw [get_set_ne _ _ hij] at this
        exact .inl ⟨hR.dom i o this, this⟩
  have hlt : ∀ i o, (laidS S N k.2).h.get i = some o → i < N := by
    intro i o ho
    rcases hget i o ho with ⟨h, _⟩ | ⟨_, h, _⟩
    · omega
    · exact h
  have hx : Ext ρ (fun i g => if i < N then ρ2 i g else none) := by
    intro i g pl hpl
    have hi : i < S.next := by
      rcases Nat.lt_or_ge i S.next with hh | hh
      · exact hh
      · rw [hR.fresh i g hh] at hpl; cases hpl
    simp only [if_pos (show i < N by omega)]
    exact g3.ext i g pl hpl
  have hsub : Sub (laidS S N k.2) (laidS S T.next k.2) := ⟨fun id _ => by rw [hh], by rw [hn3, hn2]; exact h4⟩
  have hO : ∀ id o, (laidS S N k.2).h.get id = some o → ORel (fun i g => if i < (laidS S N k.2).next then ρ2 i g else none) w' id o := by
    rw [hn3]
    intro id o ho
    have hT : (laidS S T.next k.2).h.get id = some o := by rw [← hh]; exact ho
    have hidN := hlt id o ho
    rcases hget id o ho with ⟨h, hS⟩ | ⟨_, _, cells, t, y, rfl, hf⟩
    · exact ORel.restrict hx g3.ext (fun g => by simp only [if_pos hidN]) (hR.objs id o hS) (g2.objs id o hT)
    · obtain ⟨a1, a2, a3⟩ := g2.objs id _ hT
      refine ⟨a1, fun j j1 j2 => ?_, fun j j' p q b1 b2 b3 b4 hp hq e => ?_⟩
      · obtain ⟨pl, C, fr, q1, q2, q3, q4, q5, q6, q7, q8, q9⟩ := a2 j j1 j2
        refine ⟨pl, C, fr, by simp only [if_pos hidN]; exact q1, q2, q3, q4, q5, fun n hn => ?_, q7, q8, q9⟩
        obtain ⟨z, u, s1, s2, s3, s4⟩ := q6 n hn
        refine ⟨z, u, s1, s2, ?_, s4⟩
        have hf' : flatF 2 z = true := by
          have gen : ∀ (l : List AV) (n : Nat) (y : AV), flatL (flatF 2) l = true → l[n]? = some y → flatF 2 y = true := by
            intro l
            induction l with
            | nil => intro n y _ h; simp at h
            | cons z l ih =>
              intro n y h hy
              simp only [flatL, Bool.and_eq_true] at h
              cases n with
              | zero => simp at hy; subst hy; exact h.1
              | succ n => exact ih n y h.2 (by simpa using hy)
          exact gen cells n z hf s1
        exact flat_rel 2 z u _ _ hf' s3
      · simp only [if_pos hidN] at hp hq
        exact a3 j j' p q b1 b2 b3 b4 hp hq e
  refine ⟨x, fun i g => if i < (laidS S N k.2).next then ρ2 i g else none, rfl, ?_, g2.drop hsub (fun id o ho => by rw [hn3]; exact hlt id o ho) hO, ?_⟩
  · -- the value
    rw [hn3]
    have h2' := h2
    unfold keepV at h2'
    split at h2'
    · rename_i id g off len lim sz cap hv1
      have hv1' : v' = .slice id g off len lim sz cap := hv1
      have hk1 : k.1 = .slice id g off len lim sz cap ∧ ∃ o, k.2 = some (id, o) := by
        cases hb : Nat.ble S.next id with
        | false => rw [hb] at h2'; cases h2'
        | true =>
          rw [hb] at h2'
          simp only [cond_true] at h2'
          split at h2'
          · rename_i cells low top frz ty hrw
            cases hfl : (flatL (flatF 2) cells && Nat.beq g top && Nat.ble low top) with
            | false => rw [hfl] at h2'; cases h2'
            | true => rw [hfl] at h2'; cases h2'; exact ⟨hv1', _, rfl⟩
          · cases h2'
      obtain ⟨e1, o, e2⟩ := hk1
      have hidN := (hrow id o e2).2.1
      rw [e1] at hv ⊢
      simp only [VRel] at hv ⊢
      obtain ⟨pl, c, p1, rest⟩ := hv
      exact ⟨pl, c, by rw [if_pos hidN]; exact p1, rest⟩
    · rename_i hne
      cases hfl : flatF 3 v' with
      | false =>
        have : (cond (flatF 3 v') (some (v', (none : Option (Nat × AObj)))) none) = some k := h2'
        rw [hfl] at this; cases this
      | true =>
        have : (cond (flatF 3 v') (some (v', (none : Option (Nat × AObj)))) none) = some k := h2'
        rw [hfl] at this
        cases this
        exact flat_rel 3 v' x _ _ hfl hv
  · rw [hn3]
    refine ⟨hx, g3.os, g3.tape, g3.output, g3.size, g3.keep, fun b hb => ?_, fun b hb => ?_, by rw [hn3]; exact hN, fun id g hi hn => ?_⟩
    · obtain ⟨i, o, g, pl, hi, hp', rfl⟩ := hb
      simp only [if_pos (hlt i o hi)] at hp'
      exact g3.mine _ ⟨i, o, g, pl, by rw [← hh]; exact hi, hp', rfl⟩
    · obtain ⟨i, o, g, pl, hi, hz, hp', rfl⟩ := hb
      simp only [if_pos (hlt i o hi)] at hp'
      exact g3.wrt _ ⟨i, o, g, pl, by rw [← hh]; exact hi, hz, hp', rfl⟩
    · refine ⟨by simp only [if_pos (show id < N by omega)]; exact (g3.resv id g hi hn).1, ?_⟩
      rw [hh]
      exact (g3.resv id g hi hn).2
end Go.Am
