/-
  The abstract machine against the model: entries by their stamps, iterators.
-/
import Derived.Test.YtpgmahedcpepkaaGreatDoorAmMaps
namespace Go.Am
open Go
variable {Λ : LB}

theorem run_setObj' {P : Program} {w : World} {b : Nat} {o x : Obj} (h : w.heap[b]? = some x) (hx : ∀ c e f, x ≠ .cells c e f) :
    ∃ w', (setObj b o).run P w = .ok () w' ∧ But b w w' ∧ w'.heap[b]? = some o := by
  refine ⟨{ w with heap := w.heap.setIfInBounds b o }, ?_, ⟨⟨rfl, rfl, rfl⟩, by simp, fun k hk => ?_⟩, ?_⟩
  · cases x <;> first | exact absurd rfl (hx _ _ _) | simp [setObj, Sem.run, h]
  · simp only [Array.getElem?_setIfInBounds_ne (Ne.symm hk)]
  · have hlt : b < w.heap.size := (Array.getElem?_eq_some_iff.1 h).1
    simp [hlt]
theorem run_getObj' {P : Program} {w : World} {b : Nat} {x : Obj} (h : w.heap[b]? = some x) (hx : ∀ c e f, x ≠ .cells c e f) : (getObj b).run P w = .ok x w := by
  cases x <;> first | exact absurd rfl (hx _ _ _) | simp [getObj, Sem.run, h]
theorem run_newObj' {P : Program} {w : World} (o : Obj) : ∃ w', (newObj o).run P w = .ok w.heap.size w' ∧ Grew o w w' :=
  ⟨{ w with heap := w.heap.push o }, by simp [newObj, Sem.run], ⟨⟨rfl, rfl, rfl⟩, rfl⟩⟩
theorem OthRel.ne {ρ : Rho} {x : AOth} {o : Obj} (h : OthRel ρ x o) : ∀ c e f, o ≠ .cells c e f := by
  intro c e f he
  subst he
  cases x with
  | iter m a b c => cases m with
    | none => obtain ⟨_, _, _, h⟩ := h; cases h
    | some m => obtain ⟨_, _, _, h, _⟩ := h; cases h
  | siter s p => obtain ⟨_, h, _⟩ := h; cases h
  | loop st j F ps a b => obtain ⟨_, _, _, h, _⟩ := h; cases h
  | dfr op => cases h
  | chan c b => obtain ⟨_, _, _, h, _⟩ := h; cases h

/-! ### Entries, as a row -/
theorem ERel.nil {ρ : Rho} : ERel ρ [] [] := ⟨rfl, fun i e m h => by simp at h⟩
theorem ERel.cons {ρ : Rho} {e : AEnt} {m : MapEntry} {es : List AEnt} {ms : List MapEntry} (h : VRel ρ e.key m.key ∧ VRel ρ e.val m.val ∧ e.born = m.born) (t : ERel ρ es ms) : ERel ρ (e :: es) (m :: ms) := by
  refine ⟨by simp [t.1], fun i x y hx hy => ?_⟩
  cases i with
  | zero => simp at hx hy; subst hx hy; exact h
  | succ i => exact t.2 i x y (by simpa using hx) (by simpa using hy)
theorem ERel.uncons {ρ : Rho} {e : AEnt} {es : List AEnt} {l : List MapEntry} (h : ERel ρ (e :: es) l) : ∃ m ms, l = m :: ms ∧ (VRel ρ e.key m.key ∧ VRel ρ e.val m.val ∧ e.born = m.born) ∧ ERel ρ es ms := by
  obtain ⟨h1, h2⟩ := h
  cases l with
  | nil => simp at h1
  | cons m ms => exact ⟨m, ms, rfl, h2 0 e m rfl rfl, by simpa using h1, fun i x y hx hy => h2 (i + 1) x y (by simpa using hx) (by simpa using hy)⟩
theorem ERel.empty {ρ : Rho} {l : List MapEntry} (h : ERel ρ [] l) : l = [] := by
  obtain ⟨h1, _⟩ := h
  cases l with
  | nil => rfl
  | cons m ms => simp at h1
theorem ERel.filter {ρ : Rho} {p : AEnt → Bool} {q : MapEntry → Bool} (hpq : ∀ e m, e.born = m.born → p e = q m) : ∀ {es : List AEnt} {ms : List MapEntry}, ERel ρ es ms → ERel ρ (es.filter p) (ms.filter q)
  | [], ms, h => by rw [h.empty]; exact .nil
  | e :: es, l, h => by
    obtain ⟨m, ms, rfl, h1, h2⟩ := h.uncons
    have ih := ERel.filter hpq h2
    have hb := hpq e m h1.2.2
    cases hp : p e with
    | true => rw [List.filter_cons_of_pos hp, List.filter_cons_of_pos (by rw [← hb]; exact hp)]; exact .cons h1 ih
    | false => rw [List.filter_cons_of_neg (by simp [hp]), List.filter_cons_of_neg (by rw [← hb, hp]; simp)]; exact ih
theorem ERel.append {ρ : Rho} : ∀ {es : List AEnt} {ms : List MapEntry} {es' : List AEnt} {ms' : List MapEntry}, ERel ρ es ms → ERel ρ es' ms' → ERel ρ (es ++ es') (ms ++ ms')
  | [], ms, es', ms', h, h' => by rw [h.empty]; simpa using h'
  | e :: es, l, es', ms', h, h' => by
    obtain ⟨m, ms, rfl, h1, h2⟩ := h.uncons
    exact .cons h1 (ERel.append h2 h')
theorem ERel.all {ρ : Rho} {p : AEnt → Bool} {q : MapEntry → Bool} (hpq : ∀ e m, e.born = m.born → p e = q m) : ∀ {es : List AEnt} {ms : List MapEntry}, ERel ρ es ms → es.all p = ms.all q
  | [], ms, h => by rw [h.empty]; rfl
  | e :: es, l, h => by
    obtain ⟨m, ms, rfl, h1, h2⟩ := h.uncons
    simp only [List.all_cons, hpq e m h1.2.2, ERel.all hpq h2]
theorem ERel.get {ρ : Rho} {es : List AEnt} {ms : List MapEntry} (h : ERel ρ es ms) {i : Nat} {m : MapEntry} (hm : ms[i]? = some m) : ∃ e, es[i]? = some e ∧ VRel ρ e.key m.key ∧ VRel ρ e.val m.val ∧ e.born = m.born := by
  have hi : i < es.length := by
    rw [h.1]
    rcases Nat.lt_or_ge i ms.length with h1 | h1
    · exact h1
    · rw [List.getElem?_eq_none h1] at hm; cases hm
  exact ⟨es[i], List.getElem?_eq_getElem hi, h.2 i _ m (List.getElem?_eq_getElem hi) hm⟩

theorem findB_cons (b : Nat) (e : AEnt) (es : List AEnt) (i : Nat) : findB b (e :: es) i = if e.born = b then some (i, e) else findB b es (i + 1) := by
  show cond (Nat.beq e.born b) (some (i, e)) (findB b es (Nat.succ i)) = _
  rw [nbeq]
  by_cases h : e.born = b <;> simp [h]
theorem findB_run {ρ : Rho} {b : Nat} : ∀ {es : List AEnt} {ms : List MapEntry} {i j : Nat} {e : AEnt}, ERel ρ es ms → findB b es i = some (j, e) →
    ∃ m, ms.find? (fun m => m.born == b) = some m ∧ ms.findIdx? (fun m => m.born == b) = some (j - i) ∧ i ≤ j ∧ es[j - i]? = some e ∧ ms[j - i]? = some m ∧ VRel ρ e.key m.key ∧ VRel ρ e.val m.val ∧ e.born = m.born
  | [], ms, i, j, e, _, h => by cases h
  | x :: es, l, i, j, e, hE, h => by
    obtain ⟨m, ms, rfl, h1, h2⟩ := hE.uncons
    rw [findB_cons] at h
    by_cases hb : x.born = b
    · rw [if_pos hb] at h
      cases h
      have hmb : (m.born == b) = true := by rw [← h1.2.2, hb]; simp
      exact ⟨m, by simp [hmb], by rw [List.findIdx?_cons]; simp [hmb], Nat.le_refl _, by simp, by simp, h1⟩
    · rw [if_neg hb] at h
      obtain ⟨m', r1, r2, r3, r4, r5, r6⟩ := findB_run h2 h
      have hmb : (m.born == b) = false := by rw [← h1.2.2]; simp [hb]
      obtain ⟨k, rfl⟩ : ∃ k, j = i + 1 + k := ⟨j - (i + 1), by omega⟩
      have e1 : i + 1 + k - (i + 1) = k := by omega
      have e2 : i + 1 + k - i = k + 1 := by omega
      rw [e1] at r2 r4 r5
      exact ⟨m', by simp [hmb, r1], by rw [List.findIdx?_cons, e2]; simp [hmb, r2], by omega, by rw [e2]; simpa using r4, by rw [e2]; simpa using r5, r6⟩

/-- An entry turned in its place. -/
theorem ERel.set {ρ : Rho} {es : List AEnt} {ES : Array MapEntry} (h : ERel ρ es ES.toList) {j : Nat} {e : AEnt} (hj : j < es.length) {f : MapEntry → MapEntry}
    (hf : ∀ m, ES.toList[j]? = some m → VRel ρ e.key (f m).key ∧ VRel ρ e.val (f m).val ∧ e.born = (f m).born) : ERel ρ (es.set j e) (ES.modify j f).toList := by
  refine ⟨by simpa using h.1, fun i x y hx hy => ?_⟩
  rw [Array.getElem?_toList, Array.getElem?_modify] at hy
  by_cases hij : j = i
  · subst hij
    rw [List.getElem?_set_self hj] at hx
    cases hx
    rw [if_pos rfl, ← Array.getElem?_toList] at hy
    cases hm : ES.toList[j]? with
    | none => rw [hm] at hy; cases hy
    | some m => rw [hm] at hy; cases hy; exact hf m hm
  · rw [List.getElem?_set_ne hij] at hx
    rw [if_neg hij, ← Array.getElem?_toList] at hy
    exact h.2 i x y hx hy
theorem ERel.push {ρ : Rho} {es : List AEnt} {ES : Array MapEntry} (h : ERel ρ es ES.toList) {e : AEnt} {m : MapEntry} (hm : VRel ρ e.key m.key ∧ VRel ρ e.val m.val ∧ e.born = m.born) : ERel ρ (es ++ [e]) (ES.push m).toList := by
  rw [Array.toList_push]
  exact h.append (.cons hm .nil)

/-! ### Entries -/
theorem goInt_rel (ρ : Rho) (n : Nat) : VRel ρ (.int .i64 (.ofNat n)) (goInt n) := by simp [VRel, goInt]
theorem pair_rel {ρ : Rho} {a b : AV} {x y : Value} (h : VRel ρ a x) (k : VRel ρ b y) : VRel ρ (.tuple [a, b]) (.tuple #[x, y]) := by
  simp only [VRel]; exact ⟨_, rfl, LRel.cons h (LRel.cons k LRel.nil)⟩

theorem entryMV_run {P : Program} {cx : Cx} (hcx : CxOk Λ P cx) {ρ : Rho} {S S' : AS} {w : World} (hR : R Λ ρ S w) {t : TypeId} {x k u : AV} {x' k' : Value}
    (h : entryMV cx S t x k = some (u, S')) (hx : VRel ρ x x') (hk : VRel ρ k k') : SemOk Λ P ρ S w (Instr.mapEntry t x' k') u S' := by
  unfold entryMV at h
  cases hu : und cx t with
  | none => rw [hu] at h; cases x <;> simp at h
  | some dt =>
    rw [hu] at h
    cases x with
    | map id =>
      cases dt <;> simp only [reduceCtorEq] at h
      rename_i kt et
      cases hd : und cx kt with
      | none => simp [hd] at h
      | some d =>
      cases hz : zeroOf cx et with
      | none => simp [hd, hz] at h
      | some z =>
        simp only [hd, hz] at h
        cases hp : plainKey d k with
        | false => simp [hp] at h
        | true =>
          simp only [hp, cond_true] at h
          simp only [VRel] at hx
          obtain ⟨pl, p1, rfl⟩ := hx
          obtain ⟨zv, zr, zrel⟩ := zero_run hcx hz
          cases ho : S.h.get id with
          | none => simp [ho] at h
          | some o =>
            cases o with
            | row a b c d t => simp [ho] at h
            | oth x => simp [ho] at h
            | map es clock =>
              simp only [ho] at h
              obtain ⟨pl', ES, q1, q2, q3⟩ := hR.objs id _ ho
              rw [p1] at q1; cases q1
              have hg : (getObj pl.b).run P w = .ok (.map ES clock) w := by simp [getObj, Sem.run, q2]
              cases hf : findE d k es 0 with
              | none => simp [hf] at h
              | some r =>
                obtain ⟨r', f1, f2⟩ := findE_run hk es ES.toList 0 r q3 hf
                cases r with
                | none =>
                  simp only [hf, Option.some.injEq, Prod.mk.injEq, appL_eq] at h
                  obtain ⟨rfl, rfl⟩ := h
                  cases r' with
                  | some _ => exact f2.elim
                  | none =>
                    obtain ⟨w', s1, s2, s3⟩ := run_setObj (P := P) (o := .map (ES.push { key := k', val := zv, born := clock }) (clock + 1)) q2
                    obtain ⟨t1, t2⟩ := hR.setMap (es := es ++ [⟨k, z, clock⟩]) ho (by intro a b c d t e; cases e) p1 s2 s3 (q3.push ⟨hk, zrel ρ, rfl⟩)
                    refine ⟨_, ρ, w', ?_, pair_rel (zrel ρ) (goInt_rel ρ clock), t1, t2⟩
                    simp only [Instr.mapEntry, Sem.run_bind, run_und hcx hu, Result.andThen_ok, hg, checkKey_plain hcx hd hp hk, findKey_run hcx hd f1, zr, s1, Sem.run_pure]
                | some je =>
                  obtain ⟨j, e⟩ := je
                  simp only [hf, Option.some.injEq, Prod.mk.injEq, setNth_eq] at h
                  obtain ⟨rfl, rfl⟩ := h
                  cases r' with
                  | none => exact f2.elim
                  | some jv =>
                    obtain ⟨j', vv⟩ := jv
                    obtain ⟨rfl, _, hej, hvv0, hsame⟩ := f2
                    simp only [Nat.sub_zero] at hej
                    have hjl : j < es.length := by
                      rcases Nat.lt_or_ge j es.length with h0 | h0
                      · exact h0
                      · rw [List.getElem?_eq_none h0] at hej; cases hej
                    have hjl' : j < ES.toList.length := by rw [← q3.1]; exact hjl
                    have hm : ES.toList[j]? = some ES.toList[j] := List.getElem?_eq_getElem hjl'
                    obtain ⟨hkk, hvv, hbb⟩ := q3.2 j e _ hej hm
                    have hms : ES[j]? = some ES.toList[j] := by rw [← Array.getElem?_toList]; exact hm
                    have hbits := same_bits (sameK_rel hsame hk hkk)
                    have hstay : (Instr.keyThatStays (((ES[j]?).map (·.key)).getD k') k').run P w = .ok k' w := by
                      rw [hms]
                      simp only [Option.map_some, Option.getD_some, Instr.keyThatStays, hbits, if_true, Sem.run_pure]
                    obtain ⟨w', s1, s2, s3⟩ := run_setObj (P := P) (o := .map (ES.modify j fun e => { e with key := k' }) clock) q2
                    obtain ⟨t1, t2⟩ := hR.setMap (es := es.set j ⟨k, e.val, e.born⟩) ho (by intro a b c d t e; cases e) p1 s2 s3 (q3.set hjl fun m hm' => by
                      rw [hm] at hm'; cases hm'; exact ⟨hk, hvv, hbb⟩)
                    refine ⟨_, ρ, w', ?_, pair_rel hvv0 (goInt_rel ρ e.born), t1, t2⟩
                    simp only [Instr.mapEntry, Sem.run_bind, run_und hcx hu, Result.andThen_ok, hg, checkKey_plain hcx hd hp hk, findKey_run hcx hd f1, hstay, s1, Sem.run_pure]
                    rw [hms]
                    simp only [Option.map_some, Option.getD_some, hbb]
    | _ => cases dt <;> simp at h

theorem entrySV_run {P : Program} {ρ : Rho} {S S' : AS} {w : World} (hR : R Λ ρ S w) {t : TypeId} {x k v u : AV} {x' k' v' : Value}
    (h : entrySV S x k v = some (u, S')) (hx : VRel ρ x x') (hk : VRel ρ k k') (hv : VRel ρ v v') :
    ∃ w', (Instr.entryStore t x' k' v').run P w = .ok () w' ∧ u = .undef ∧ R Λ ρ S' w' ∧ Kp ρ S w ρ S' w' := by
  unfold entrySV at h
  split at h
  · rename_i id kd b
    simp only [VRel] at hx hk
    obtain ⟨pl, p1, rfl⟩ := hx
    subst hk
    cases ho : S.h.get id with
    | none => simp [ho] at h
    | some o =>
      cases o with
      | row a b c d t => simp [ho] at h
      | oth x => simp [ho] at h
      | map es clock =>
        simp only [ho] at h
        obtain ⟨pl', ES, q1, q2, q3⟩ := hR.objs id _ ho
        rw [p1] at q1; cases q1
        have hg : (getObj pl.b).run P w = .ok (.map ES clock) w := by simp [getObj, Sem.run, q2]
        cases hf : findB b es 0 with
        | none => simp [hf] at h
        | some r =>
          obtain ⟨i, e⟩ := r
          simp only [hf, Option.some.injEq, Prod.mk.injEq, setNth_eq] at h
          obtain ⟨rfl, rfl⟩ := h
          obtain ⟨m, r1, r2, r3, r4, r5, r6, r7, r8⟩ := findB_run q3 hf
          simp only [Nat.sub_zero] at r2 r4 r5
          have hjl : i < es.length := by
            rcases Nat.lt_or_ge i es.length with h0 | h0
            · exact h0
            · rw [List.getElem?_eq_none h0] at r4; cases r4
          obtain ⟨w', s1, s2, s3⟩ := run_setObj (P := P) (o := .map (ES.modify i fun e => { e with val := v' }) clock) q2
          obtain ⟨t1, t2⟩ := hR.setMap (es := es.set i ⟨e.key, v, e.born⟩) ho (by intro a b c d t e; cases e) p1 s2 s3 (q3.set hjl fun m' hm' => by
            rw [r5] at hm'; cases hm'; exact ⟨r6, hv, r8⟩)
          refine ⟨w', ?_, rfl, t1, t2⟩
          have hidx : ES.findIdx? (fun e => (e.born : Int) == (b : Int)) = some i := by
            have e1 : ES.findIdx? (fun e => (e.born : Int) == (b : Int)) = ES.toList.findIdx? (fun e => (e.born : Int) == (b : Int)) := by
              rw [← List.findIdx?_toArray]
            rw [e1, ← r2]
            have e2 : (fun e : MapEntry => (e.born : Int) == (b : Int)) = fun m => m.born == b := by
              funext m
              by_cases hmb : m.born = b
              · rw [hmb]; simp
              · have h1 : ¬ (m.born : Int) = (b : Int) := by omega
                rw [beq_eq_false_iff_ne.2 hmb, beq_eq_false_iff_ne.2 h1]
            rw [e2]
          simp only [Instr.entryStore, Sem.run_bind, Sem.run_pure, Result.andThen_ok, hg, asInt, asIntOf, Int.ofNat_eq_natCast, hidx]
          exact s1
  · cases h

/-! ### Iterators -/
theorem rangeV_run {P : Program} {cx : Cx} (hcx : CxOk Λ P cx) {ρ : Rho} {S S' : AS} {w : World} (hR : R Λ ρ S w) {t : TypeId} {x u : AV} {x' : Value}
    (h : rangeV cx S t x = some (u, S')) (hx : VRel ρ x x') : SemOk Λ P ρ S w (Instr.range t x') u S' := by
  have key : ∀ (y : AOth) (o : Obj), OthRel ρ y o → (Instr.range t x').run P w = ((do pure (.pointer (some ⟨← newObj o, 0, none⟩))) : Sem Value).run P w → u = .ptr S.next 0 0 0 → S' = ⟨S.h.set S.next (.oth y), Nat.succ S.next⟩ →
      SemOk Λ P ρ S w (Instr.range t x') u S' := by
    intro y o hy hrun hu hS
    subst hu hS
    obtain ⟨w', r1, r2⟩ := run_newObj' (P := P) (w := w) o
    obtain ⟨ρ', pl, p1, p2, p3, p6, p7⟩ := hR.newOth r2 hy
    refine ⟨.pointer (some ⟨w.heap.size, 0, none⟩), ρ', w', ?_, ?_, p6, p7⟩
    · rw [hrun]; simp only [Sem.run_bind, r1, Result.andThen_ok, Sem.run_pure]
    · simp only [VRel]
      exact ⟨_, p1, Nat.zero_le _, by rw [p2, p3]⟩
  unfold rangeV at h
  cases hu : und cx t with
  | none => rw [hu] at h; cases x <;> simp at h
  | some dt =>
    rw [hu] at h
    split at h
    · rename_i he
      cases he
      rename_i s
      cases h
      simp only [VRel] at hx
      obtain ⟨b, rfl, hb⟩ := hx
      exact key (.siter s 0) (.stringIter b 0) ⟨b, rfl, hb⟩ (by simp only [Instr.range, Sem.run_bind, run_und hcx hu, Result.andThen_ok, Sem.run_pure]) rfl rfl
    · rename_i kt et he
      cases he
      cases h
      simp only [VRel] at hx
      subst hx
      exact key (.iter none 0 [] 0) (.mapIter none 0 #[] 0) ⟨_, _, _, rfl⟩ (by simp only [Instr.range, Sem.run_bind, run_und hcx hu, Result.andThen_ok, Sem.run_pure]) rfl rfl
    · rename_i kt et id he
      cases he
      simp only [VRel] at hx
      obtain ⟨pl, p1, rfl⟩ := hx
      cases ho : S.h.get id with
      | none => simp [ho] at h
      | some o =>
        cases o with
        | row a b c d t => simp [ho] at h
        | oth x => simp [ho] at h
        | map es clock =>
          simp only [ho] at h
          cases h
          obtain ⟨pl', ES, q1, q2, q3⟩ := hR.objs id _ ho
          rw [p1] at q1; cases q1
          have hg : (getObj pl.b).run P w = .ok (.map ES clock) w := by simp [getObj, Sem.run, q2]
          exact key (.iter (some id) clock [] clock) (.mapIter (some pl.b) clock #[] clock) ⟨pl, #[], p1, rfl, rfl⟩ (by simp only [Instr.range, Sem.run_bind, run_und hcx hu, Result.andThen_ok, Sem.run_pure, hg]) rfl rfl
    · cases h
theorem decode_ascii {b : ByteArray} {s : List Nat} {pos c : Nat} (hb : b.data.toList.map UInt8.toNat = s) (h : s[pos]? = some c) (hc : c < 128) : pos < b.size ∧ Utf8.decode b pos = (c, 1) := by
  subst hb
  rw [List.getElem?_map] at h
  cases hx : b.data.toList[pos]? with
  | none => rw [hx] at h; cases h
  | some x =>
    rw [hx] at h
    simp only [Option.map_some, Option.some.injEq] at h
    have hlt : pos < b.data.size := by
      rw [Array.getElem?_toList] at hx
      exact (Array.getElem?_eq_some_iff.1 hx).1
    have hget : b.get! pos = x := by
      have h1 : b.get! pos = b.data[pos]! := by cases b; rfl
      rw [h1, getElem!_pos b.data pos hlt]
      rw [Array.getElem?_toList, Array.getElem?_eq_getElem hlt] at hx
      exact Option.some.inj hx
    refine ⟨hlt, ?_⟩
    simp only [Utf8.decode, Nat.add_zero, hget, h, if_pos hc]
theorem past_size {b : ByteArray} {s : List Nat} {pos : Nat} (hb : b.data.toList.map UInt8.toNat = s) (h : s[pos]? = none) : ¬ pos < b.size := by
  subst hb
  rw [List.getElem?_eq_none_iff] at h
  simp only [List.length_map, Array.length_toList] at h
  show ¬ pos < b.data.size
  omega

theorem iter_addr {ρ : Rho} {S : AS} {w : World} (hR : R Λ ρ S w) {id lim : Nat} {x' : Value} {y : AOth} (hx : VRel ρ (.ptr id 0 0 lim) x') (ho : S.h.get id = some (.oth y)) :
    ∃ pl o, ρ id 0 = some pl ∧ pl.base = 0 ∧ x' = .pointer (some ⟨pl.b, 0, none⟩) ∧ w.heap[pl.b]? = some o ∧ OthRel ρ y o := by
  simp only [VRel] at hx
  obtain ⟨pl, p1, _, rfl⟩ := hx
  obtain ⟨pl', o, q1, q2, q3, q4⟩ := hR.objs id _ ho
  rw [p1] at q1; cases q1
  exact ⟨pl, o, p1, q4, by rw [q4], q2, q3⟩

theorem over_rel (ρ : Rho) : VRel ρ (.tuple [.bool false]) (.tuple #[.bool false]) := by
  simp only [VRel]; exact ⟨_, rfl, LRel.cons (by simp [VRel]) LRel.nil⟩
theorem nextV_val {P : Program} {ρ : Rho} {S S' : AS} {w : World} (hR : R Λ ρ S w) {x u : AV} {x' : Value} {str : Bool} {ty : TypeId} (h : nextV S x str = .val u S') (hx : VRel ρ x x') :
    SemOk Λ P ρ S w (Instr.next x' str ty) u S' := by
  unfold nextV at h
  split at h
  · rename_i id lim
    split at h
    · rename_i s pos ho
      obtain ⟨pl, o, p1, p2, rfl, p4, b, rfl, hb⟩ := iter_addr hR hx ho
      have hg := run_getObj' (P := P) p4 (by intro _ _ _ e; cases e)
      cases str with
      | false => cases h
      | true =>
        simp only [cond_true, nth_eq] at h
        cases hp : s[pos]? with
        | none =>
          rw [hp] at h
          cases h
          refine ⟨_, ρ, w, ?_, over_rel ρ, hR, Kp.refl _ _ _⟩
          simp only [Instr.next, Sem.run_bind, Sem.run_pure, Result.andThen_ok, hg, if_neg (past_size hb hp)]
        | some c =>
          rw [hp] at h
          simp only [nblt] at h
          by_cases hc : c < 128
          · rw [decide_eq_true hc] at h
            cases h
            obtain ⟨d1, d2⟩ := decode_ascii hb hp hc
            obtain ⟨w', s1, s2, s3⟩ := run_setObj' (P := P) (o := .stringIter b (pos + 1)) p4 (by intro _ _ _ e; cases e)
            obtain ⟨t1, t2⟩ := hR.setOth (x := .siter s (pos + 1)) ho (by intro a b c d t e; cases e) p1 s2 s3 ⟨b, rfl, hb⟩ p2
            refine ⟨.tuple #[.bool true, goInt pos, .int .i32 (c : Int)], ρ, w', ?_, ?_, t1, t2⟩
            · simp only [Instr.next, Sem.run_bind, Sem.run_pure, Result.andThen_ok, hg, if_pos d1, d2, s1]
            · simp only [VRel]
              exact ⟨_, rfl, LRel.cons (by simp [VRel]) (LRel.cons (goInt_rel ρ pos) (LRel.cons (by simp [VRel]) LRel.nil))⟩
          · rw [decide_eq_false hc] at h
            cases h
    · rename_i a b c ho
      obtain ⟨pl, o, p1, p2, rfl, p4, a', b', c', rfl⟩ := iter_addr hR hx ho
      have hg := run_getObj' (P := P) p4 (by intro _ _ _ e; cases e)
      cases str with
      | true => cases h
      | false =>
        cases h
        refine ⟨_, ρ, w, ?_, over_rel ρ, hR, Kp.refl _ _ _⟩
        simp only [Instr.next, Sem.run_bind, Sem.run_pure, Result.andThen_ok, hg]
    · rename_i m since seen last ho
      cases str with
      | true => cases h
      | false =>
        simp only [cond_false] at h
        split at h <;> cases h
    · cases h
  · cases h

theorem emp_len {α β : Type} {a : List α} {b : Array β} (h : a.length = b.toList.length) : a.isEmpty = b.isEmpty := by
  cases a with
  | nil =>
    have : b.size = 0 := by simpa using h.symm
    simp [Array.isEmpty, this]
  | cons x l =>
    have : b.size ≠ 0 := by
      intro e
      have h2 : b.toList.length = b.size := Array.length_toList
      have h3 : (x :: l).length = l.length + 1 := rfl
      omega
    simp [Array.isEmpty, this]
theorem choose_map {P : Program} {ρ : Rho} {S : AS} {w : World} (hR : R Λ ρ S w) {n : Nat} (hn : 0 < n) :
    ∃ i w1, (choose (.mapNext n)).run P w = .ok i w1 ∧ w1.heap = w.heap ∧ i < n ∧ R Λ ρ S w1 ∧ Kp ρ S w ρ S w1 := by
  rw [run_choose]
  split
  · exact ⟨0, w, rfl, rfl, hn, hR, Kp.refl _ _ _⟩
  · exact ⟨_, { w with drawn := w.drawn + 1 }, rfl, rfl, Nat.mod_lt _ hn, hR.drawn _, Kp.drawn _ _ _ _⟩
theorem isNil_iff {α : Type} (l : List α) : isNilL l = l.isEmpty := by cases l <;> rfl
theorem nextV_many {P : Program} {ρ : Rho} {S : AS} {w : World} (hR : R Λ ρ S w) {x : AV} {x' : Value} {str : Bool} {ty : TypeId} {l : List (AV × AS)} (h : nextV S x str = .many l) (hne : l ≠ []) (hx : VRel ρ x x') :
    ∃ r, r ∈ l ∧ SemOk Λ P ρ S w (Instr.next x' str ty) r.1 r.2 := by
  unfold nextV at h
  split at h
  · rename_i id lim
    split at h
    · rename_i s pos ho
      cases str with
      | false => cases h
      | true =>
        simp only [cond_true] at h
        split at h
        · rename_i b hb
          cases hbb : Nat.blt b 128 <;> rw [hbb] at h <;> cases h
        · cases h
    · cases str <;> cases h
    · rename_i m since seen last ho
      cases str with
      | true => cases h
      | false =>
        simp only [cond_false] at h
        cases hm : S.h.get m with
        | none => rw [hm] at h; cases h
        | some om =>
          cases om with
          | row a b c d t => rw [hm] at h; cases h
          | oth y => rw [hm] at h; cases h
          | map es clock =>
            rw [hm] at h
            simp only [AR.many.injEq] at h
            obtain ⟨pl, o, p1, p2, rfl, p4, plm, sn, m1, rfl, m3⟩ := iter_addr hR hx ho
            obtain ⟨plm', ES, q1, q2, q3⟩ := hR.objs m _ hm
            rw [m1] at q1; cases q1
            have hg := run_getObj' (P := P) p4 (by intro _ _ _ e; cases e)
            have hgm : (getObj plm.b).run P w = .ok (.map ES clock) w := by simp [getObj, Sem.run, q2]
            have hseen : ∀ b, memN b seen = sn.contains b := by
              intro b
              rw [memN_eq, ← Array.contains_toList, m3]
              simp
            have hall : allL (fun e => Nat.ble last e.born) es = ES.all (fun e => decide (e.born ≥ last)) := by
              rw [allL_eq, ← Array.all_toList]
              exact ERel.all (fun e m hb => by rw [nble, hb]) q3
            have hsn : seen.isEmpty = sn.isEmpty := by
              rw [← Array.isEmpty_toList, m3]; simp
            have hes : es.isEmpty = ES.isEmpty := emp_len q3.1
            unfold nextM at h
            simp only [isNil_iff, filL_eq, mapL_eq, appL_eq, hall, hsn, hes] at h
            cases hg1 : (!sn.isEmpty && (!ES.isEmpty && ES.all (fun e => decide (e.born ≥ last)))) with
            | true => rw [hg1] at h; exact absurd h.symm hne
            | false =>
              rw [hg1] at h
              simp only [cond_false] at h
              have hg2 : (!sn.isEmpty && !ES.isEmpty && ES.all (fun e => decide (e.born ≥ last))) = false := by rw [Bool.and_assoc]; exact hg1
              have q4 : ERel ρ (es.filter fun e => !memN e.born seen) (ES.toList.filter fun e => !sn.contains e.born) := ERel.filter (fun e m hb => by rw [hseen, hb]) q3
              have q5 := ERel.filter (p := fun e => Nat.blt e.born since) (q := fun m => decide (m.born < since)) (fun e m hb => by rw [nblt, hb]) q4
              have q6 := ERel.filter (p := fun e => !Nat.blt e.born since) (q := fun m => decide (m.born ≥ since)) (fun e m hb => by
                rw [nblt, hb]
                by_cases hlt : m.born < since
                · simp [hlt]
                · simp [hlt]; omega) q4
              generalize hold : (es.filter fun e => !memN e.born seen).filter (fun e => Nat.blt e.born since) = old at h q5
              generalize hnew : (es.filter fun e => !memN e.born seen).filter (fun e => !Nat.blt e.born since) = new at h q6
              have q7 := q5.append q6
              -- the model's candidates
              have hcand : ∃ (O N : Array MapEntry), O.toList = (ES.toList.filter fun e => !sn.contains e.born).filter (fun m => decide (m.born < since)) ∧
                  N.toList = (ES.toList.filter fun e => !sn.contains e.born).filter (fun m => decide (m.born ≥ since)) ∧
                  (ES.filter fun e => !sn.contains e.born).filter (fun m => decide (m.born < since)) = O ∧ (ES.filter fun e => !sn.contains e.born).filter (fun m => decide (m.born ≥ since)) = N := by
                refine ⟨_, _, ?_, ?_, rfl, rfl⟩ <;> simp only [Array.toList_filter]
              obtain ⟨O, N, hO, hN, eO, eN⟩ := hcand
              rw [← hO] at q5
              rw [← hO, ← hN] at q7
              have hoe : old.isEmpty = O.isEmpty := emp_len q5.1
              have hrun : ∀ (i : Nat) (w1 : World), (choose (.mapNext ((if O.isEmpty then #[none] else #[]) ++ (O ++ N).map some).size)).run P w = .ok i w1 →
                  (∀ c, ((if O.isEmpty then #[none] else #[]) ++ (O ++ N).map some)[i]? = some c →
                    (Instr.next (.pointer (some ⟨pl.b, 0, none⟩)) false ty).run P w = (match c with
                      | some e => (do setObj pl.b (.mapIter (some plm.b) since (sn.push e.born) clock); pure (.tuple #[.bool true, e.key, e.val]) : Sem Value)
                      | none => pure (.tuple #[.bool false])).run P w1) := by
                intro i w1 hi c hc
                simp only [Instr.next, Sem.run_bind, Result.andThen_ok, hg, hgm, hg2, Bool.false_eq_true, if_false, eO, eN, hi, hc]
                cases c <;> rfl
              -- which one is drawn
              have hsz : 0 < ((if O.isEmpty then #[none] else #[]) ++ (O ++ N).map some : Array (Option MapEntry)).size := by
                rw [Array.size_append]
                by_cases hO2 : O.isEmpty = true
                · rw [if_pos hO2]; exact Nat.lt_of_lt_of_le Nat.zero_lt_one (Nat.le_add_right _ _)
                · rw [if_neg hO2, Array.size_map, Array.size_append]
                  have : O.size ≠ 0 := fun e => hO2 (by simp [Array.isEmpty, e])
                  omega
              obtain ⟨i, w1, d1, d2, d6, dR, dK⟩ := choose_map (P := P) hR hsz
              have hc := hrun i w1 d1 _ (Array.getElem?_eq_getElem d6)
              have hmem := Array.getElem_mem d6
              generalize ((if O.isEmpty then #[none] else #[]) ++ (O ++ N).map some : Array (Option MapEntry))[i] = c at hc hmem
              cases c with
              | none =>
                have hOe : old.isEmpty = true := by
                  rw [hoe]
                  cases hO2 : O.isEmpty with
                  | true => rfl
                  | false => rw [hO2] at hmem; simp at hmem
                rw [hOe] at h
                simp only [cond_true] at h
                subst h
                refine ⟨_, List.mem_cons_self, .tuple #[.bool false], ρ, w1, ?_, over_rel ρ, dR, dK⟩
                rw [hc]
                simp only [Sem.run_pure]
              | some e =>
                have hin : e ∈ (O ++ N).toList := by
                  have h1 : some e ∈ ((O ++ N).map some : Array (Option MapEntry)) := by
                    rcases Array.mem_append.1 hmem with h1 | h1
                    · cases hO2 : O.isEmpty <;> rw [hO2] at h1 <;> simp at h1
                    · exact h1
                  obtain ⟨e', h2, h3⟩ := Array.mem_map.1 h1
                  cases h3
                  exact Array.mem_toList_iff.2 h2
                rw [Array.toList_append] at hin
                obtain ⟨j, hj⟩ := List.mem_iff_getElem?.1 hin
                obtain ⟨a, ha, ha1, ha2, ha3⟩ := q7.get hj
                have hal : stepE S id m since seen clock a ∈ l := by
                  have h1 : stepE S id m since seen clock a ∈ List.map (stepE S id m since seen clock) (old ++ new) := List.mem_map.2 ⟨a, List.mem_of_getElem? ha, rfl⟩
                  rw [← h]
                  cases old.isEmpty with
                  | true => exact List.mem_cons_of_mem _ h1
                  | false => exact h1
                obtain ⟨w', s1, s2, s3⟩ := run_setObj' (P := P) (o := .mapIter (some plm.b) since (sn.push e.born) clock) (by rw [d2]; exact p4 : w1.heap[pl.b]? = _) (by intro _ _ _ e; cases e)
                obtain ⟨t1, t2⟩ := dR.setOth (x := .iter (some m) since (a.born :: seen) clock) ho (by intro a b c d t e; cases e) p1 s2 s3 ⟨plm, _, m1, rfl, by simp [m3, ha3]⟩ p2
                refine ⟨_, hal, .tuple #[.bool true, e.key, e.val], ρ, w', ?_, ?_, t1, dK.trans t2⟩
                · rw [hc]
                  simp only [Sem.run_bind, s1, Result.andThen_ok, Sem.run_pure]
                · simp only [stepE, VRel]
                  exact ⟨_, rfl, LRel.cons (by simp [VRel]) (LRel.cons ha1 (LRel.cons ha2 LRel.nil))⟩
    · cases h
  · cases h

theorem entryV_run {P : Program} {ρ : Rho} {S : AS} {w : World} (hR : R Λ ρ S w) {x u : AV} {x' : Value} (h : entryV S x = some u) (hx : VRel ρ x x') :
    ∃ z, (Instr.entry x').run P w = .ok z w ∧ VRel ρ u z := by
  unfold entryV at h
  split at h
  · rename_i id lim
    split at h
    · rename_i m since b seen last ho
      obtain ⟨pl, o, p1, p2, rfl, p4, plm, sn, m1, rfl, m3⟩ := iter_addr hR hx ho
      have hg := run_getObj' (P := P) p4 (by intro _ _ _ e; cases e)
      cases hm : S.h.get m with
      | none => rw [hm] at h; cases h
      | some om =>
        cases om with
        | row a b c d t => rw [hm] at h; cases h
        | oth y => rw [hm] at h; cases h
        | map es clock =>
          rw [hm] at h
          simp only [nbeq] at h
          by_cases hcl : clock = last
          · rw [decide_eq_true hcl] at h
            simp only [cond_true] at h
            subst hcl
            obtain ⟨plm', ES, q1, q2, q3⟩ := hR.objs m _ hm
            rw [m1] at q1; cases q1
            have hgm : (getObj plm.b).run P w = .ok (.map ES clock) w := by simp [getObj, Sem.run, q2]
            have hback : sn.back? = some b := by
              rw [Array.back?_eq_getElem?, ← Array.getElem?_toList]
              have hsz : sn.size = seen.length + 1 := by rw [← Array.length_toList, m3]; simp
              rw [m3, hsz, List.getElem?_reverse (by simp)]
              simp
            cases hf : findB b es 0 with
            | none => rw [hf] at h; cases h
            | some r =>
              obtain ⟨i, e⟩ := r
              rw [hf] at h
              cases h
              obtain ⟨mm, r1, r2, r3, r4, r5, r6, r7, r8⟩ := findB_run q3 hf
              refine ⟨.tuple #[mm.key, mm.val], ?_, pair_rel r6 r7⟩
              have hfd : ES.find? (fun m => m.born == b) = some mm := by rw [← Array.find?_toList]; exact r1
              simp only [Instr.entry, Sem.run_bind, Sem.run_pure, Result.andThen_ok, hg, hgm, hback, bne_self_eq_false, Bool.false_eq_true, if_false, hfd]
          · rw [decide_eq_false hcl] at h
            cases h
    · cases h
  · cases h

end Go.Am
