/-
  The abstract machine against the model: copies, lengths, maps.
  The abstract machine against the model: package-level variables, type assertions, functions without a body, clear, unsafe.String.
-/
import Derived.Test.YtpgmahedcpepkaaGreatDoorAmAppend
import Derived.Lib.Bytealg
import Derived.Lib.Builder
import Derived.Lib.UnsafeStr
import Derived.Lib.MakeNoZero
namespace Go.Am
open Go
variable {Λ : LB}

theorem copyV_run {P : Program} {cx : Cx} (hcx : CxOk Λ P cx) {ρ : Rho} {S S' : AS} {w : World} (hR : R Λ ρ S w) {ts : Array TypeId} {t ty e : TypeId} {sz : Nat} {d x v : AV} {d' x' : Value}
    (h : copyV S sz d x = some (v, S')) (hts : ts[0]? = some t) (hu : und cx t = some (.slice e)) (hs : szOf cx e = some sz) (hd : VRel ρ d d') (hx : VRel ρ x x') :
    SemOk Λ P ρ S w (Builtin.copy_ ts ty #[d', x']) v S' := by
  unfold copyV at h
  cases ht : taken S sz x with
  | none => simp [ht] at h
  | some nn =>
    obtain ⟨n, new⟩ := nn
    obtain ⟨hlen, hnl, hfc⟩ := taken_run (P := P) hR ht hx
    rw [ht] at h
    cases d <;> simp only [reduceCtorEq] at h
    case nils =>
      simp only [Option.some.injEq, Prod.mk.injEq] at h
      obtain ⟨rfl, rfl⟩ := h
      simp only [VRel] at hd
      subst hd
      obtain ⟨arr, r1, r2⟩ := hfc 0 (Nat.zero_le _)
      refine ⟨.int .i64 0, ρ, w, ?_, by simp [VRel], hR, Kp.refl _ _ _⟩
      have hm : Nat.min n 0 = 0 := Nat.min_zero n
      unfold Builtin.copy_
      simp only [hts, List.getElem?_toArray, List.getElem?_cons_zero, List.getElem?_cons_succ, Sem.run_bind, run_und hcx hu, Result.andThen_ok, hlen, hm, run_sz hcx hs, r1, Sem.run_pure]
      rfl
    case slice id g off len lim z cap =>
      simp only [nbeq] at h
      by_cases hzz : z = sz
      · subst hzz
        rw [decide_eq_true rfl] at h
        simp only [cond_true] at h
        obtain ⟨ad, c, rfl, hlc, hcap⟩ := slice_val hd
        obtain ⟨arr, r1, r2⟩ := hfc (Nat.min n len) (Nat.min_le_left _ _)
        have run : ∀ w', (storeCells ad arr.toList).run P w = .ok () w' → (Builtin.copy_ ts ty #[.slice (some ad) len c, x']).run P w = .ok (goInt (Nat.min n len : Nat)) w' := by
          intro w' hst
          unfold Builtin.copy_
          simp only [hts, List.getElem?_toArray, List.getElem?_cons_zero, List.getElem?_cons_succ, Sem.run_bind, run_und hcx hu, Result.andThen_ok, hlen, run_sz hcx hs, r1, hst, Sem.run_pure]
        have harrl := r2.length
        have hmn : Nat.min n len ≤ n := Nat.min_le_left _ _
        have hml : Nat.min n len ≤ len := Nat.min_le_right _ _
        generalize hm : Nat.min n len = m at *
        cases m with
        | zero =>
          simp only [Option.some.injEq, Prod.mk.injEq] at h
          obtain ⟨rfl, rfl⟩ := h
          have ha : arr.toList = [] := by
            have : (new.take (0 * z)).length = 0 := by simp
            exact List.eq_nil_of_length_eq_zero (by omega)
          exact ⟨_, ρ, w, run w (by rw [ha]; rfl), by simp [VRel, goInt], hR, Kp.refl _ _ _⟩
        | succ m =>
          simp only [Nat.mul_eq] at h
          cases hwr : wr S id g off lim (takeN ((m + 1) * z) new) with
          | none => simp [hwr] at h
          | some S1 =>
            simp only [hwr, Option.some.injEq, Prod.mk.injEq] at h
            obtain ⟨rfl, rfl⟩ := h
            simp only [VRel] at hd
            obtain ⟨pl, c', p1, p2, p3, p4, p5, hh⟩ := hd
            rcases hh with ⟨he, _⟩ | ⟨e1, _⟩
            · cases he
              rw [takeN_eq] at hwr
              obtain ⟨w', q1, q2, q3⟩ := store_row (P := P) hR hwr p1 p2 r2.1 r2.2
              exact ⟨_, ρ, w', run w' q1, by simp [VRel, goInt], q2, q3⟩
            · omega
      · rw [decide_eq_false hzz] at h; cases h

theorem lenV_run {P : Program} {cx : Cx} (hcx : CxOk Λ P cx) {ρ : Rho} {S : AS} {w : World} (hR : R Λ ρ S w) {ts : Array TypeId} {t ty : TypeId} {x : AV} {x' : Value} {n : Nat} {rest : Array Value}
    (h : lenV cx S t x = some n) (hts : ts[0]? = some t) (hr : rest[0]? = some x') (hx : VRel ρ x x') : (Builtin.len_ ts ty rest).run P w = .ok (goInt n) w := by
  unfold lenV at h
  cases hu : und cx t with
  | none => simp [hu] at h
  | some d =>
    have hru := run_und hcx hu w
    rw [hu] at h
    unfold Builtin.len_
    simp only [hts, hr]
    have hR' := hR
    cases d with
    | string =>
      cases x <;> simp only [reduceCtorEq] at h
      simp only [VRel] at hx
      obtain ⟨b, rfl, hb⟩ := hx
      simp only [Option.some.injEq] at h
      subst h
      simp only [Sem.run_bind, hru, Result.andThen_ok, Sem.run_pure, size_str hb]
    | slice e =>
      cases x <;> simp only [reduceCtorEq] at h
      · simp only [VRel] at hx
        subst hx
        simp only [Option.some.injEq] at h
        subst h
        simp only [Sem.run_bind, hru, Result.andThen_ok, Sem.run_pure]
      · obtain ⟨a, c, rfl, _, _⟩ := slice_val hx
        simp only [Option.some.injEq] at h
        subst h
        simp only [Sem.run_bind, hru, Result.andThen_ok, Sem.run_pure]
    | map k e =>
      cases x <;> simp only [reduceCtorEq] at h
      · simp only [VRel] at hx
        subst hx
        simp only [Option.some.injEq] at h
        subst h
        simp only [Sem.run_bind, hru, Result.andThen_ok, Sem.run_pure]; rfl
      · rename_i id
        simp only [VRel] at hx
        obtain ⟨pl, p1, rfl⟩ := hx
        cases ho : S.h.get id with
        | none => simp [ho] at h
        | some o =>
          cases o with
          | row a b c d t => simp [ho] at h
          | oth x => simp [ho] at h
          | map es clock =>
            simp only [ho, Option.some.injEq] at h
            obtain ⟨pl', ES, q1, q2, q3⟩ := hR.objs id _ ho
            rw [p1] at q1; cases q1
            have hg : (getObj pl.b).run P w = .ok (.map ES clock) w := by simp [getObj, Sem.run, q2]
            simp only [Sem.run_bind, hru, hg, Result.andThen_ok, Sem.run_pure]
            rw [← h]
            have : ES.size = es.length := by have := q3.1; simpa using this.symm
            rw [this]
    | array m e =>
      have h' : some m = some n := by cases x <;> exact h
      simp only [Option.some.injEq] at h'
      subst h'
      simp only [Sem.run_bind, hru, Result.andThen_ok]
      cases x' <;> rfl
    | pointer e =>
      have h' : (match und cx e with
        | some (.array n _) => some n
        | _ => none) = some n := by cases x <;> exact h
      split at h'
      · rename_i m e' he
        simp only [Option.some.injEq] at h'
        subst h'
        simp only [Sem.run_bind, hru, Result.andThen_ok]
        cases x' <;> simp only [run_und hcx he, Result.andThen_ok, Sem.run_pure]
      · cases h'
    | _ => cases x <;> simp at h

/-! ### Keys -/
theorem sameK_rel {ρ : Rho} {d : TypeDesc} {x y : AV} {r : Bool} {x' y' : Value} (h : sameK d x y = some r) (hx : VRel ρ x x') (hy : VRel ρ y y') :
    Instr.sameNow d x' y' = some r := by
  unfold sameK at h
  split at h <;> (try (cases h; done)) <;> simp only [VRel] at hx hy
  · subst hx hy
    rename_i j a k b
    rw [kindEq_eq, eqI_eq] at h
    by_cases hk : j = k
    · rw [decide_eq_true hk] at h; subst hk; cases h
      simp [Instr.sameNow]; rfl
    · rw [decide_eq_false hk] at h; cases h
  · obtain ⟨b1, rfl, e1⟩ := hx
    obtain ⟨b2, rfl, e2⟩ := hy
    cases h
    show some (b1 == b2) = _
    rw [beq_toListBytes, eq_str e1 e2]
  · subst hx hy; cases h; rfl

theorem findE_run {ρ : Rho} {d : TypeDesc} {k : AV} {k' : Value} (hk : VRel ρ k k') : ∀ (es : List AEnt) (ES : List MapEntry) (i : Nat) (r : Option (Nat × AEnt)), ERel ρ es ES → findE d k es i = some r →
    ∃ r', Instr.findNow d k' ES i = some r' ∧ match r, r' with
      | none, none => True
      | some (j, e), some (j', v) => j = j' ∧ i ≤ j ∧ es[j - i]? = some e ∧ VRel ρ e.val v ∧ sameK d k e.key = some true
      | _, _ => False := by
  intro es
  induction es with
  | nil =>
    intro ES i r he h
    have : ES = [] := List.eq_nil_of_length_eq_zero (by have := he.1; simpa using this.symm)
    subst this
    have h' : some none = some r := h
    cases h'
    exact ⟨none, rfl, trivial⟩
  | cons e es ih =>
    intro ES i r he h
    cases ES with
    | nil => have := he.1; simp at this
    | cons m ES =>
      have h' : (match sameK d k e.key with
        | some true => some (some (i, e))
        | some false => findE d k es (i + 1)
        | none => none) = some r := h
      obtain ⟨h1, h2, h3⟩ := he.2 0 e m rfl rfl
      have het : ERel ρ es ES := ⟨by have := he.1; simpa using this, fun j a b ha hb => he.2 (j + 1) a b (by simpa using ha) (by simpa using hb)⟩
      cases hs : sameK d k e.key with
      | none => simp [hs] at h'
      | some b =>
        have hn := sameK_rel hs hk h1
        cases b with
        | true =>
          simp only [hs, Option.some.injEq] at h'
          subst h'
          exact ⟨some (i, m.val), by simp [Instr.findNow, hn], rfl, Nat.le_refl _, by simp, h2, hs⟩
        | false =>
          simp only [hs] at h'
          obtain ⟨r', q1, q2⟩ := ih ES (i + 1) r het h'
          refine ⟨r', by simp [Instr.findNow, hn, q1], ?_⟩
          cases r with
          | none => cases r' with
            | none => trivial
            | some _ => exact q2.elim
          | some je => cases r' with
            | none => exact q2.elim
            | some jv =>
              obtain ⟨a1, a2, a3, a4, a5⟩ := q2
              refine ⟨a1, by omega, ?_, a4, a5⟩
              have e' : je.1 - i = (je.1 - (i + 1)) + 1 := by omega
              rw [e']; simpa using a3

theorem checkKey_succ {P : Program} {cx : Cx} (hcx : CxOk Λ P cx) {ρ : Rho} {t : TypeId} {d : TypeDesc} {k : AV} {k' : Value} {e : Bool} (hu : und cx t = some d) (hp : plainKey d k = true) (hk : VRel ρ k k') (n : Nat) (w : World) :
    (Instr.checkKey e (n + 1) t k').run P w = .ok () w := by
  unfold plainKey at hp
  split at hp <;> (try simp only [VRel] at hk)
  · subst hk; simp only [Instr.checkKey, Sem.run_bind, run_und hcx hu, Result.andThen_ok]; rfl
  · obtain ⟨b, rfl, _⟩ := hk; simp only [Instr.checkKey, Sem.run_bind, run_und hcx hu, Result.andThen_ok]; rfl
  · subst hk; simp only [Instr.checkKey, Sem.run_bind, run_und hcx hu, Result.andThen_ok]; rfl
  · cases hp
theorem checkKey_plain {P : Program} {cx : Cx} (hcx : CxOk Λ P cx) {ρ : Rho} {t : TypeId} {d : TypeDesc} {k : AV} {k' : Value} {e : Bool} (hu : und cx t = some d) (hp : plainKey d k = true) (hk : VRel ρ k k') (w : World) :
    (Instr.checkKey e 10000 t k').run P w = .ok () w := checkKey_succ hcx hu hp hk 9999 w

theorem findKey_run {P : Program} {cx : Cx} (hcx : CxOk Λ P cx) {t : TypeId} {d : TypeDesc} {k' : Value} {ES : List MapEntry} {r : Option (Nat × Value)} (hu : und cx t = some d) (h : Instr.findNow d k' ES 0 = some r) (w : World) :
    (Instr.findKey t k' ES).run P w = .ok r w := by
  simp only [Instr.findKey, Sem.run_bind, run_und hcx hu, Result.andThen_ok, h, Sem.run_pure]

theorem lookupV_run {P : Program} {cx : Cx} (hcx : CxOk Λ P cx) {ρ : Rho} {S : AS} {w : World} (hR : R Λ ρ S w) {t : TypeId} {x k v : AV} {ok : Bool} {x' k' : Value}
    (h : lookupV cx S t x k ok = some v) (hx : VRel ρ x x') (hk : VRel ρ k k') : ∃ z, (Instr.lookup t x' k' ok).run P w = .ok z w ∧ VRel ρ v z := by
  unfold lookupV at h
  cases hu : und cx t with
  | none => simp [hu] at h
  | some dt =>
    rw [hu] at h
    cases dt <;> simp only [reduceCtorEq] at h
    rename_i kt et
    cases hd : und cx kt with
    | none => simp [hd] at h
    | some d =>
      cases hz : zeroOf cx et with
      | none => simp [hd, hz] at h
      | some z =>
        simp only [hd, hz] at h
        cases hp : plainKey d k with
        | false => simp [hp] at h
        | true =>
          simp only [hp, cond_true] at h
          obtain ⟨zv, zr, zrel⟩ := zero_run hcx hz
          have out : ∀ (u : AV) (u' : Value) (b : Bool), VRel ρ u u' → VRel ρ (cond ok (.tuple [u, .bool b]) u) (if ok = true then .tuple #[u', .bool b] else u') := by
            intro u u' b hu'
            cases ok with
            | true =>
              simp only [cond_true, if_true, VRel]
              exact ⟨_, rfl, LRel.cons hu' (LRel.cons (by simp [VRel]) LRel.nil)⟩
            | false => simpa using hu'
          cases x <;> simp only [reduceCtorEq] at h
          case nilm =>
            cases h
            simp only [VRel] at hx
            subst hx
            refine ⟨_, ?_, out z zv false (zrel ρ)⟩
            simp only [Instr.lookup, Sem.run_bind, run_und hcx hu, Result.andThen_ok, Sem.run_pure, checkKey_plain hcx hd hp hk, findKey_run hcx hd (rfl : Instr.findNow d k' (#[] : Array MapEntry).toList 0 = some none), zr]
          case map id =>
            simp only [VRel] at hx
            obtain ⟨pl, p1, rfl⟩ := hx
            cases ho : S.h.get id with
            | none => simp [ho] at h
            | some o =>
              cases o with
              | row a b c d t => simp [ho] at h
              | oth x => simp [ho] at h
              | map es clock =>
                simp only [ho] at h
                obtain ⟨pl', ES, q1, q2, q3⟩ := hR.objs id _ ho
                rw [p1] at q1; cases q1
                have hg : (getObj pl.b).run P w = .ok (.map ES clock) w := by simp [getObj, Sem.run, q2]
                cases hf : findE d k es 0 with
                | none => simp [hf] at h
                | some r =>
                  obtain ⟨r', f1, f2⟩ := findE_run hk es ES.toList 0 r q3 hf
                  cases r with
                  | none =>
                    simp only [hf, Option.some.injEq] at h
                    subst h
                    cases r' with
                    | some _ => exact f2.elim
                    | none =>
                      refine ⟨_, ?_, out z zv false (zrel ρ)⟩
                      simp only [Instr.lookup, Sem.run_bind, run_und hcx hu, Result.andThen_ok, Sem.run_pure, hg, checkKey_plain hcx hd hp hk, findKey_run hcx hd f1, zr]
                  | some je =>
                    obtain ⟨j, e⟩ := je
                    simp only [hf, Option.some.injEq] at h
                    subst h
                    cases r' with
                    | none => exact f2.elim
                    | some jv =>
                      refine ⟨_, ?_, out e.val jv.2 true f2.2.2.2.1⟩
                      simp only [Instr.lookup, Sem.run_bind, run_und hcx hu, Result.andThen_ok, Sem.run_pure, hg, checkKey_plain hcx hd hp hk, findKey_run hcx hd f1]

theorem run_setObj {P : Program} {w : World} {b : Nat} {o : Obj} {ES : Array MapEntry} {c : Nat} (h : w.heap[b]? = some (.map ES c)) :
    ∃ w', (setObj b o).run P w = .ok () w' ∧ But b w w' ∧ w'.heap[b]? = some o := by
  refine ⟨{ w with heap := w.heap.setIfInBounds b o }, by simp [setObj, Sem.run, h], ⟨⟨rfl, rfl, rfl⟩, by simp, fun k hk => ?_⟩, ?_⟩
  · simp only [Array.getElem?_setIfInBounds_ne (Ne.symm hk)]
  · have hlt : b < w.heap.size := (Array.getElem?_eq_some_iff.1 h).1
    simp [hlt]

theorem same_bits {d : TypeDesc} {x y : Value} (h : Instr.sameNow d x y = some true) : Instr.sameBits 10000 y x = true := by
  unfold Instr.sameNow at h
  split at h
  · rename_i k a k' b
    split at h
    · rename_i hk
      subst hk
      simp only [Option.some.injEq, beq_iff_eq] at h
      subst h
      unfold Instr.sameBits; simp
    · cases h
  · simp only [Option.some.injEq] at h
    rename_i a b
    rw [beq_toListBytes] at h
    unfold Instr.sameBits
    show (b == a) = true
    rw [beq_toListBytes]
    have := eq_of_beq h
    rw [this]; simp
  · simp only [Option.some.injEq, beq_iff_eq] at h
    subst h
    unfold Instr.sameBits; simp
  · cases h

theorem updateV_run {P : Program} {cx : Cx} (hcx : CxOk Λ P cx) {ρ : Rho} {S S' : AS} {w : World} (hR : R Λ ρ S w) {t : TypeId} {x k v u : AV} {x' k' v' : Value}
    (h : updateV cx S t x k v = some (u, S')) (hx : VRel ρ x x') (hk : VRel ρ k k') (hv : VRel ρ v v') :
    ∃ w', (Instr.mapUpdate t x' k' v').run P w = .ok () w' ∧ u = .undef ∧ R Λ ρ S' w' ∧ Kp ρ S w ρ S' w' := by
  unfold updateV at h
  cases hu : und cx t with
  | none => rw [hu] at h; cases x <;> simp at h
  | some dt =>
    rw [hu] at h
    cases x with
    | map id =>
      cases dt <;> simp only [reduceCtorEq] at h
      rename_i kt et
      cases hd : und cx kt with
      | none => simp [hd] at h
      | some d =>
        simp only [hd] at h
        cases hp : plainKey d k with
        | false => simp [hp] at h
        | true =>
          simp only [hp, cond_true] at h
          simp only [VRel] at hx
          obtain ⟨pl, p1, rfl⟩ := hx
          cases ho : S.h.get id with
          | none => simp [ho] at h
          | some o =>
            cases o with
            | row a b c d t => simp [ho] at h
            | oth x => simp [ho] at h
            | map es clock =>
              simp only [ho] at h
              obtain ⟨pl', ES, q1, q2, q3⟩ := hR.objs id _ ho
              rw [p1] at q1; cases q1
              have hg : (getObj pl.b).run P w = .ok (.map ES clock) w := by simp [getObj, Sem.run, q2]
              cases hf : findE d k es 0 with
              | none => simp [hf] at h
              | some r =>
                obtain ⟨r', f1, f2⟩ := findE_run hk es ES.toList 0 r q3 hf
                cases r with
                | none =>
                  simp only [hf, Option.some.injEq, Prod.mk.injEq, appL_eq] at h
                  obtain ⟨rfl, rfl⟩ := h
                  cases r' with
                  | some _ => exact f2.elim
                  | none =>
                    obtain ⟨w', s1, s2, s3⟩ := run_setObj (P := P) (o := .map (ES.push { key := k', val := v', born := clock }) (clock + 1)) q2
                    obtain ⟨t1, t2⟩ := hR.setMap (es := es ++ [⟨k, v, clock⟩]) ho (by intro a b c d t e; cases e) p1 s2 s3 (by
                      refine ⟨by simp [q3.1], fun i e m he hm => ?_⟩
                      rw [Array.toList_push] at hm
                      by_cases hi : i < es.length
                      · rw [List.getElem?_append_left hi] at he
                        rw [List.getElem?_append_left (by rw [← q3.1]; exact hi)] at hm
                        exact q3.2 i e m he hm
                      · have hl := q3.1
                        rw [List.getElem?_append_right (by omega)] at he
                        rw [List.getElem?_append_right (by omega)] at hm
                        have hi0 : i - es.length = 0 := by
                          rcases Nat.eq_zero_or_pos (i - es.length) with h0 | h0
                          · exact h0
                          · rw [List.getElem?_eq_none (by simp; omega)] at he; cases he
                        have hi1 : i - ES.toList.length = 0 := by omega
                        rw [hi0] at he; rw [hi1] at hm
                        simp at he hm
                        subst he hm
                        exact ⟨hk, hv, rfl⟩)
                    refine ⟨w', ?_, rfl, t1, t2⟩
                    simp only [Instr.mapUpdate, Sem.run_bind, run_und hcx hu, Result.andThen_ok, hg, checkKey_plain hcx hd hp hk, findKey_run hcx hd f1, s1]
                | some je =>
                  obtain ⟨j, e⟩ := je
                  simp only [hf, Option.some.injEq, Prod.mk.injEq, setNth_eq] at h
                  obtain ⟨rfl, rfl⟩ := h
                  cases r' with
                  | none => exact f2.elim
                  | some jv =>
                    obtain ⟨j', vv⟩ := jv
                    obtain ⟨rfl, _, hej, _, hsame⟩ := f2
                    simp only [Nat.sub_zero] at hej
                    have hjl : j < es.length := by
                      rcases Nat.lt_or_ge j es.length with h0 | h0
                      · exact h0
                      · rw [List.getElem?_eq_none h0] at hej; cases hej
                    have hjl' : j < ES.toList.length := by rw [← q3.1]; exact hjl
                    have hm : ES.toList[j]? = some ES.toList[j] := List.getElem?_eq_getElem hjl'
                    obtain ⟨hkk, hvv, hbb⟩ := q3.2 j e _ hej hm
                    have hms : ES[j]? = some ES.toList[j] := by rw [← Array.getElem?_toList]; exact hm
                    have hbits := same_bits (sameK_rel hsame hk hkk)
                    have hstay : (Instr.keyThatStays (((ES[j]?).map (·.key)).getD k') k').run P w = .ok k' w := by
                      rw [hms]
                      simp only [Option.map_some, Option.getD_some, Instr.keyThatStays, hbits, if_true, Sem.run_pure]
                    obtain ⟨w', s1, s2, s3⟩ := run_setObj (P := P) (o := .map (ES.modify j fun e => { e with key := k', val := v' }) clock) q2
                    obtain ⟨t1, t2⟩ := hR.setMap (es := es.set j ⟨k, v, e.born⟩) ho (by intro a b c d t e; cases e) p1 s2 s3 (by
                      refine ⟨by simp [q3.1], fun i e2 m he hm2 => ?_⟩
                      rw [Array.getElem?_toList, Array.getElem?_modify] at hm2
                      by_cases hij : j = i
                      · subst hij
                        rw [List.getElem?_set_self hjl] at he
                        rw [if_pos rfl, hms] at hm2
                        simp at he hm2
                        subst he hm2
                        exact ⟨hk, hv, hbb⟩
                      · rw [List.getElem?_set_ne hij] at he
                        rw [if_neg hij, ← Array.getElem?_toList] at hm2
                        exact q3.2 i e2 m he hm2)
                    refine ⟨w', ?_, rfl, t1, t2⟩
                    simp only [Instr.mapUpdate, Sem.run_bind, run_und hcx hu, Result.andThen_ok, hg, checkKey_plain hcx hd hp hk, findKey_run hcx hd f1, hstay, s1]
    | _ => cases dt <;> simp at h

theorem eraseN_eq {α : Type} : ∀ (n : Nat) (l : List α), eraseN n l = l.eraseIdx n := by
  intro n; induction n with
  | zero => intro l; cases l <;> rfl
  | succ n ih => intro l; cases l with
    | nil => rfl
    | cons x l => show x :: eraseN n l = _; rw [ih]; rfl

theorem deleteV_run {P : Program} {cx : Cx} (hcx : CxOk Λ P cx) {ρ : Rho} {S S' : AS} {w : World} (hR : R Λ ρ S w) {ts : Array TypeId} {t ty : TypeId} {x k u : AV} {x' k' : Value}
    (h : deleteV cx S t x k = some (u, S')) (ht : ts[0]? = some t) (hx : VRel ρ x x') (hk : VRel ρ k k') :
    ∃ w', (Builtin.delete_ ts ty #[x', k']).run P w = .ok undef w' ∧ u = .undef ∧ R Λ ρ S' w' ∧ Kp ρ S w ρ S' w' := by
  unfold deleteV at h
  cases hu : und cx t with
  | none => rw [hu] at h; cases h
  | some dt =>
    rw [hu] at h
    cases dt <;> simp only [reduceCtorEq] at h
    rename_i kt et
    cases hd : und cx kt with
    | none => simp [hd] at h
    | some d =>
      simp only [hd] at h
      cases hp : plainKey d k with
      | false => simp [hp] at h
      | true =>
        simp only [hp, cond_true] at h
        cases x <;> simp only [reduceCtorEq] at h
        case nilm =>
          cases h
          simp only [VRel] at hx
          subst hx
          refine ⟨w, ?_, rfl, hR, Kp.refl _ _ _⟩
          simp only [Builtin.delete_, ht, List.getElem?_toArray, List.getElem?_cons_zero, List.getElem?_cons_succ, Sem.run_bind, run_und hcx hu, Result.andThen_ok, checkKey_plain hcx hd hp hk, Sem.run_pure]
          rfl
        case map id =>
          simp only [VRel] at hx
          obtain ⟨pl, p1, rfl⟩ := hx
          cases ho : S.h.get id with
          | none => simp [ho] at h
          | some o =>
            cases o with
            | row a b c d t => simp [ho] at h
            | oth x => simp [ho] at h
            | map es clock =>
              simp only [ho] at h
              obtain ⟨pl', ES, q1, q2, q3⟩ := hR.objs id _ ho
              rw [p1] at q1; cases q1
              have hg : (getObj pl.b).run P w = .ok (.map ES clock) w := by simp [getObj, Sem.run, q2]
              cases hf : findE d k es 0 with
              | none => simp [hf] at h
              | some r =>
                obtain ⟨r', f1, f2⟩ := findE_run hk es ES.toList 0 r q3 hf
                cases r with
                | none =>
                  simp only [hf, Option.some.injEq, Prod.mk.injEq] at h
                  obtain ⟨rfl, rfl⟩ := h
                  cases r' with
                  | some _ => exact f2.elim
                  | none =>
                    obtain ⟨w', s1, s2, s3⟩ := run_setObj (P := P) (o := .map ES clock) q2
                    obtain ⟨t1, t2⟩ := hR.setMap (es := es) ho (by intro a b c d t e; cases e) p1 s2 s3 q3
                    refine ⟨w', ?_, rfl, t1, t2⟩
                    simp only [Builtin.delete_, ht, List.getElem?_toArray, List.getElem?_cons_zero, List.getElem?_cons_succ, Sem.run_bind, run_und hcx hu, Result.andThen_ok, hg, checkKey_plain hcx hd hp hk, findKey_run hcx hd f1, s1, Sem.run_pure]
                    rfl
                | some je =>
                  obtain ⟨j, e⟩ := je
                  simp only [hf, Option.some.injEq, Prod.mk.injEq, eraseN_eq] at h
                  obtain ⟨rfl, rfl⟩ := h
                  cases r' with
                  | none => exact f2.elim
                  | some jv =>
                    obtain ⟨j', vv⟩ := jv
                    obtain ⟨rfl, _, _, _, _⟩ := f2
                    obtain ⟨w', s1, s2, s3⟩ := run_setObj (P := P) (o := .map (ES.eraseIdxIfInBounds j) clock) q2
                    have hel : (ES.eraseIdxIfInBounds j).toList = ES.toList.eraseIdx j := by simp
                    obtain ⟨t1, t2⟩ := hR.setMap (es := es.eraseIdx j) ho (by intro a b c d t e; cases e) p1 s2 s3 (by
                      rw [hel]
                      refine ⟨by rw [List.length_eraseIdx, List.length_eraseIdx, q3.1], fun i e2 m he hm2 => ?_⟩
                      rw [List.getElem?_eraseIdx] at he hm2
                      by_cases hij : i < j
                      · rw [if_pos hij] at he hm2; exact q3.2 i e2 m he hm2
                      · rw [if_neg hij] at he hm2; exact q3.2 _ e2 m he hm2)
                    refine ⟨w', ?_, rfl, t1, t2⟩
                    simp only [Builtin.delete_, ht, List.getElem?_toArray, List.getElem?_cons_zero, List.getElem?_cons_succ, Sem.run_bind, run_und hcx hu, Result.andThen_ok, hg, checkKey_plain hcx hd hp hk, findKey_run hcx hd f1, s1, Sem.run_pure]
                    rfl

theorem foldI_run {P : Program} (mx : Bool) : ∀ (l : List AV) (ρ : Rho) (k : IntKind) (n : Int) (v : AV) (l' : List Value), foldI (if mx then (fun n m => !ltI n m) else (fun n m => !ltI m n)) k n l = some v → LRel ρ l l' →
    ∀ w, ∃ z, (l'.foldlM (if mx then Builtin.max2 else Builtin.min2) (.int k n)).run P w = .ok z w ∧ VRel ρ v z := by
  intro l
  induction l with
  | nil =>
    intro ρ k n v l' h hl w
    simp only [LRel] at hl
    subst hl
    simp only [foldI, Option.some.injEq] at h
    subst h
    exact ⟨_, rfl, by simp [VRel]⟩
  | cons x l ih =>
    intro ρ k n v l' h hl w
    simp only [LRel] at hl
    obtain ⟨y, ys, rfl, hy, hys⟩ := hl
    cases x <;> simp only [foldI, reduceCtorEq] at h
    rename_i j m
    simp only [VRel] at hy
    subst hy
    rw [kindEq_eq] at h
    by_cases hj : j = k
    · rw [decide_eq_true hj] at h
      subst hj
      simp only [cond_true] at h
      obtain ⟨z, r1, r2⟩ := ih ρ j _ v ys h hys w
      refine ⟨z, ?_, r2⟩
      simp only [List.foldlM_cons, Sem.run_bind]
      cases mx with
      | true =>
        simp only [if_true] at r1 ⊢
        simp only [Builtin.max2, Sem.run_pure, Result.andThen_ok]
        have e : (if m > n then m else n) = (bif !ltI n m then n else m) := by
          rw [ltI_eq]
          by_cases hc : n < m
          · rw [if_pos hc, decide_eq_true hc]; rfl
          · rw [if_neg hc, decide_eq_false hc]; rfl
        rw [e]; exact r1
      | false =>
        simp only [Bool.false_eq_true, if_false] at r1 ⊢
        simp only [Builtin.min2, Sem.run_pure, Result.andThen_ok]
        have e : (if m < n then m else n) = (bif !ltI m n then n else m) := by
          rw [ltI_eq]
          by_cases hc : m < n
          · rw [if_pos hc, decide_eq_true hc]; rfl
          · rw [if_neg hc, decide_eq_false hc]; rfl
        rw [e]; exact r1
    · rw [decide_eq_false hj] at h; cases h
end Go.Am

namespace Go.Am
open Go
variable {Λ : LB}

/-! ### Package-level variables -/
theorem glob_cells {P : Program} {cx : Cx} (hcx : CxOk Λ P cx) {ρ : Rho} {S : AS} {w : World} (hR : R Λ ρ S w) {g : Nat} {cs : List AV} (hg : cx.globs.get g = some cs) :
    ∃ (C : Array Value) (e : TypeId) (fr : Nat × Nat), w.heap[g]? = some (.cells C e fr) ∧ ∀ (i : Nat) (x : AV), cs[i]? = some x → ∃ v, C[i]? = some v ∧ VRel ρ x v ∧ v.oneCell' = true := by
  obtain ⟨h1, C, e, fr, h2, h3⟩ := hcx.globs g cs hg
  obtain ⟨_, h4, _⟩ := hR.base g h1
  refine ⟨C, e, fr, by rw [h4]; exact h2, fun i x hx => ?_⟩
  obtain ⟨v, a, b, c⟩ := h3 i x hx
  exact ⟨v, a, b ρ, c⟩

theorem glob_load {P : Program} {cx : Cx} (hcx : CxOk Λ P cx) {ρ : Rho} {S : AS} {w : World} (hR : R Λ ρ S w) {g off : Nat} {cs : List AV} {t : TypeId} {v : AV} (hg : cx.globs.get g = some cs) (h : globV cx t cs off = some v) :
    ∃ z, (Instr.loadAt t (.pointer (some ⟨g, off, none⟩))).run P w = .ok z w ∧ VRel ρ v z := by
  obtain ⟨C, e, fr, hC, hp⟩ := glob_cells hcx hR hg
  unfold globV at h
  cases ha : aggOf cx t with
  | none => simp [ha] at h
  | some b =>
    cases b with
    | true =>
      simp only [ha] at h
      cases hs : szOf cx t with
      | none => simp [hs] at h
      | some n =>
        simp only [hs, nble, lenL_eq, Nat.add_eq, takeN_eq, dropN_eq] at h
        by_cases hle : off + n ≤ cs.length
        · rw [decide_eq_true hle] at h
          simp only [cond_true, Option.some.injEq] at h
          subst h
          have hat : ∀ i, i < n → ∃ x v, (cs.drop off |>.take n)[i]? = some x ∧ C[off + i]? = some v ∧ VRel ρ x v ∧ v.oneCell' = true := by
            intro i hi
            have hx : cs[off + i]? = some cs[off + i] := List.getElem?_eq_getElem (by omega)
            obtain ⟨v, a1, a2, a3⟩ := hp _ _ hx
            exact ⟨_, v, by rw [list_at, if_pos hi]; exact hx, a1, a2, a3⟩
          let f : Nat → Value := fun i => (C[off + i]?).getD undef
          have hf : ∀ i, i < n → C[off + i]? = some (f i) := fun i hi => by
            obtain ⟨x, v, _, a2, _⟩ := hat i hi; simp [f, a2]
          have hrun : (loadCells ⟨g, off, none⟩ n).run P w = .ok ((List.range n).map f).toArray w := by
            refine run_loadCells w _ n f fun j hj => ?_
            rw [Addr_add, cell_at hC]; exact hf j hj
          refine ⟨.agg ((List.range n).map f).toArray, ?_, ?_⟩
          · simp only [Instr.loadAt, Instr.sureAddr, loadVar, Sem.run_bind, Sem.run_pure, Result.andThen_ok, run_agg hcx ha, if_true, run_sz hcx hs, hrun]
          · simp only [VRel]
            refine ⟨_, rfl, LRel.iff.2 ⟨by simp; omega, fun i x y hx hy => ?_⟩, fun x hx => ?_⟩
            · have hi : i < n := by
                rcases Nat.lt_or_ge i n with h' | h'
                · exact h'
                · rw [List.getElem?_eq_none (by simp; omega)] at hx; cases hx
              obtain ⟨x', v, a1, a2, a3, _⟩ := hat i hi
              rw [hx] at a1; cases a1
              simp [hi] at hy
              have : f i = v := by simp [f, a2]
              rw [← hy, this]; exact a3
            · simp at hx
              obtain ⟨i, hi, rfl⟩ := hx
              obtain ⟨_, v, _, a2, _, a4⟩ := hat i hi
              have : f i = v := by simp [f, a2]
              rw [this]; exact a4
        · rw [decide_eq_false hle] at h; cases h
    | false =>
      simp only [ha] at h
      rw [nth_eq] at h
      obtain ⟨z, a1, a2, _⟩ := hp off v h
      refine ⟨z, ?_, a2⟩
      simp only [Instr.loadAt, Instr.sureAddr, loadVar, Sem.run_bind, Sem.run_pure, Result.andThen_ok, run_agg hcx ha, Bool.false_eq_true, if_false, run_load, cell_at hC, a1]

/-! ### Type assertions -/
theorem assertV_run {P : Program} {cx : Cx} (hcx : CxOk Λ P cx) {ρ : Rho} {w : World} {x v : AV} {x' : Value} {xt t : TypeId} {ok : Bool} (h : assertV cx x t ok = some v) (hx : VRel ρ x x') :
    ∃ z, (Instr.typeAssert x' xt t ok).run P w = .ok z w ∧ VRel ρ v z := by
  unfold assertV at h
  cases hu : und cx t with
  | none => rw [hu] at h; cases h
  | some d =>
    have hni : ∀ m, d ≠ .interface m := by
      intro m hm
      rw [hu, hm] at h; cases h
    have no : ∀ (y : Value) (u' : Option TypeId), (ok = true → ∃ z, (zeroOf cx t = some z ∧ v = .tuple [z, .bool false])) → ok = true →
        ∃ z, ((if ok = true then do pure (.tuple #[← zeroValue t, .bool false]) else runtimePanic (.typeAssertion (some xt) u' t "")) : Sem Value).run P w = .ok z w ∧ VRel ρ v z := by
      intro y u' hz hok
      obtain ⟨z, hz1, rfl⟩ := hz hok
      obtain ⟨zv, zr, zrel⟩ := zero_run hcx hz1
      refine ⟨.tuple #[zv, .bool false], ?_, by simp only [VRel]; exact ⟨_, rfl, LRel.cons (zrel ρ) (LRel.cons (by simp [VRel]) LRel.nil)⟩⟩
      rw [if_pos hok]
      simp only [Sem.run_bind, zr, Result.andThen_ok, Sem.run_pure]
    have h' : (match (generalizing := false) x with
      | .iface u y => cond (Nat.beq u t) (some (cond ok (.tuple [y, .bool true]) y))
          (cond ok (match zeroOf cx t with | some z => some (.tuple [z, .bool false]) | none => none) none)
      | .niface => cond ok (match zeroOf cx t with | some z => some (.tuple [z, .bool false]) | none => none) none
      | _ => none) = some v := by
      rw [hu] at h
      cases d <;> first | exact h | exact absurd rfl (hni _)
    clear h
    have zof : cond ok (match zeroOf cx t with | some z => some (AV.tuple [z, .bool false]) | none => none) none = some v → ok = true ∧ ∃ z, zeroOf cx t = some z ∧ v = .tuple [z, .bool false] := by
      intro hh
      cases ok with
      | false => cases hh
      | true =>
        simp only [cond_true] at hh
        cases hz : zeroOf cx t with
        | none => simp [hz] at hh
        | some z => simp only [hz, Option.some.injEq] at hh; exact ⟨rfl, z, rfl, hh.symm⟩
    cases x <;> simp only [reduceCtorEq] at h'
    case niface =>
      simp only [VRel] at hx
      subst hx
      obtain ⟨hok, hz⟩ := zof h'
      obtain ⟨z, r1, r2⟩ := no .nilIface none (fun _ => hz) hok
      refine ⟨z, ?_, r2⟩
      unfold Instr.typeAssert
      simp only [Sem.run_bind, run_und hcx hu, Result.andThen_ok]
      cases d <;> first | exact r1 | exact absurd rfl (hni _)
    case iface u y =>
      simp only [VRel] at hx
      obtain ⟨y', rfl, hy⟩ := hx
      rw [nbeq] at h'
      by_cases hut : u = t
      · rw [decide_eq_true hut] at h'
        simp only [cond_true, Option.some.injEq] at h'
        subst h'
        refine ⟨if ok = true then .tuple #[y', .bool true] else y', ?_, ?_⟩
        · unfold Instr.typeAssert
          simp only [Sem.run_bind, run_und hcx hu, Result.andThen_ok]
          cases d <;> first | exact absurd rfl (hni _) | (simp only [if_pos hut, Sem.run_pure])
        · cases ok with
          | true => simp only [cond_true, if_true, VRel]; exact ⟨_, rfl, LRel.cons hy (LRel.cons (by simp [VRel]) LRel.nil)⟩
          | false => simpa using hy
      · rw [decide_eq_false hut] at h'
        simp only [cond_false] at h'
        obtain ⟨hok, hz⟩ := zof h'
        obtain ⟨z, r1, r2⟩ := no y' (some u) (fun _ => hz) hok
        refine ⟨z, ?_, r2⟩
        unfold Instr.typeAssert
        simp only [Sem.run_bind, run_und hcx hu, Result.andThen_ok]
        cases d <;> first | exact absurd rfl (hni _) | (simp only [if_neg hut]; exact r1)

/-! ### Functions without a body -/
theorem cmp_bytes : ∀ a b : List UInt8, Lib.compareBytes a b = if ltS (a.map UInt8.toNat) (b.map UInt8.toNat) then -1 else if eqS (a.map UInt8.toNat) (b.map UInt8.toNat) then 0 else 1
  | [], [] => rfl
  | [], _ :: _ => rfl
  | _ :: _, [] => rfl
  | a :: as, b :: bs => by
    have ih := cmp_bytes as bs
    have e1 : ltS ((a :: as).map UInt8.toNat) ((b :: bs).map UInt8.toNat) = cond (Nat.blt a.toNat b.toNat) true (cond (Nat.beq a.toNat b.toNat) (ltS (as.map UInt8.toNat) (bs.map UInt8.toNat)) false) := rfl
    have e2 : eqS ((a :: as).map UInt8.toNat) ((b :: bs).map UInt8.toNat) = cond (Nat.beq a.toNat b.toNat) (eqS (as.map UInt8.toNat) (bs.map UInt8.toNat)) false := rfl
    rw [e1, e2, nblt, nbeq]
    unfold Lib.compareBytes
    rw [ih]
    by_cases h1 : a < b
    · have : a.toNat < b.toNat := h1
      rw [if_pos h1, decide_eq_true this]; rfl
    · have h1' : ¬ a.toNat < b.toNat := h1
      rw [if_neg h1, decide_eq_false h1']
      by_cases h2 : b < a
      · have h2' : b.toNat < a.toNat := h2
        rw [if_pos h2, decide_eq_false (by omega : ¬ a.toNat = b.toNat)]; rfl
      · have h2' : ¬ b.toNat < a.toNat := h2
        rw [if_neg h2, decide_eq_true (by omega : a.toNat = b.toNat)]; rfl

theorem extV_run {P : Program} {cx : Cx} (hcx : CxOk Λ P cx) {ρ : Rho} {w : World} {f : FuncId} {x : Xf} {as : List AV} {v : AV} {args : Array Value} (hx : cx.exts.get f = some x) (h : extV x as = some v) (hl : LRel ρ as args.toList) :
    ∃ z, (callFunc f args).run P w = .ok (.value z) w ∧ VRel ρ v z := by
  have hok := hcx.exts f x hx
  unfold extV at h
  split at h
  · simp only [LRel] at hl
    obtain ⟨y, ys, hy, hyr, rfl⟩ := hl
    have : args = #[y] := Array.ext' (by simpa using hy)
    subst this
    cases h
    exact ⟨y, hok y w, hyr⟩
  · rename_i a b
    simp only [LRel, VRel] at hl
    obtain ⟨y, ys, hy, ⟨ba, rfl, hba⟩, y2, ys2, rfl, ⟨bb, rfl, hbb⟩, rfl⟩ := hl
    have : args = #[.string ba, .string bb] := Array.ext' (by simpa using hy)
    subst this
    cases h
    refine ⟨_, hok ba bb w, ?_⟩
    rw [hba, hbb]
    cases ltS a b with
    | true => simp [VRel]
    | false => cases eqS a b <;> simp [VRel]
  · rename_i s c
    simp only [LRel, VRel] at hl
    obtain ⟨y, ys, hy, ⟨ba, rfl, hba⟩, y2, ys2, rfl, rfl, rfl⟩ := hl
    have : args = #[.string ba, .int .u8 (.ofNat c)] := Array.ext' (by simpa using hy)
    subst this
    rw [nblt] at h
    have hc : c < 256 := by
      rcases Nat.lt_or_ge c 256 with hc | hc
      · exact hc
      · simp [Nat.not_lt.2 hc] at h
    simp only [hc, decide_true, cond_true, Option.some.injEq] at h
    subst h
    refine ⟨_, hok ba c w hc, ?_⟩
    rw [hba]
    show VRel ρ (intOr (idxB c s 0)) (match idxB c s 0 with | some n => .int .i64 n | none => .int .i64 (-1))
    cases idxB c s 0 with
    | none => simp [VRel, intOr]
    | some n => simp [VRel, intOr, forceN_eq]
  · rename_i s p
    simp only [LRel, VRel] at hl
    obtain ⟨y, ys, hy, ⟨ba, rfl, hba⟩, y2, ys2, rfl, ⟨bb, rfl, hbb⟩, rfl⟩ := hl
    have : args = #[.string ba, .string bb] := Array.ext' (by simpa using hy)
    subst this
    cases h
    refine ⟨_, hok ba bb w, ?_⟩
    rw [hba, hbb]
    cases idxS p s 0 with
    | none => simp [VRel, intOr]
    | some n => simp [VRel, intOr, forceN_eq]
  · rename_i s c
    simp only [LRel, VRel] at hl
    obtain ⟨y, ys, hy, ⟨ba, rfl, hba⟩, y2, ys2, rfl, rfl, rfl⟩ := hl
    have : args = #[.string ba, .int .u8 (.ofNat c)] := Array.ext' (by simpa using hy)
    subst this
    rw [nblt] at h
    have hc : c < 256 := by
      rcases Nat.lt_or_ge c 256 with hc | hc
      · exact hc
      · simp [Nat.not_lt.2 hc] at h
    simp only [hc, decide_true, cond_true, Option.some.injEq] at h
    subst h
    refine ⟨_, hok ba c w hc, ?_⟩
    rw [hba]
    simp [VRel, intOr, forceN_eq]
  · cases h

/-! ### clear -/
theorem clearV_run {P : Program} {cx : Cx} (hcx : CxOk Λ P cx) {ρ : Rho} {S S' : AS} {w : World} (hR : R Λ ρ S w) {ts : Array TypeId} {t ty : TypeId} {x u : AV} {x' : Value}
    (h : clearV cx S t x = some (u, S')) (ht : ts[0]? = some t) (hx : VRel ρ x x') :
    ∃ w', (Builtin.clear_ ts ty #[x']).run P w = .ok undef w' ∧ u = .undef ∧ R Λ ρ S' w' ∧ Kp ρ S w ρ S' w' := by
  unfold clearV at h
  obtain ⟨m1, m2, def0⟩ : ∃ m1 m2 : String, ∀ y : Value, Builtin.clear_ ts ty #[y] = (do
      match ← underlying t, y with
      | _, .map none | _, .slice none _ _ | _, .slice _ 0 _ => pure ()
      | _, .map (some r) =>
        let .map _ clock ← getObj r | stuck m1
        setObj r (.map #[] clock)
      | .slice elem, .slice (some a) n _ =>
        storeCells a (Builtin.zeroCells (← zeroValue elem).cells n).toList
      | _, _ => stuck m2
      pure undef) := by
    refine ⟨?_, ?_, fun y => ?_⟩
    rotate_left 2
    · simp only [Builtin.clear_, ht, List.getElem?_toArray, List.getElem?_cons_zero]
      rfl
  split at h
  · rename_i e hu
    cases h
    simp only [VRel] at hx
    subst hx
    refine ⟨w, ?_, rfl, hR, Kp.refl _ _ _⟩
    rw [def0]
    simp only [Sem.run_bind, run_und hcx hu, Result.andThen_ok, Sem.run_pure]
  · rename_i e id g off len lim sz cap hu
    cases len with
    | zero =>
      cases h
      obtain ⟨ad, c, rfl, _, _⟩ := slice_val hx
      refine ⟨w, ?_, rfl, hR, Kp.refl _ _ _⟩
      rw [def0]
      simp only [Sem.run_bind, run_und hcx hu, Result.andThen_ok, Sem.run_pure]
    | succ m =>
      simp only [] at h
      split at h
      · rename_i z zv hs hz
        cases hc : cellsOf zv with
        | none => simp [hc] at h
        | some zero =>
          simp only [hc, nbeq, lenL_eq] at h
          cases hcd : (decide (z = sz) && decide (zero.length = sz)) with
          | false => simp [hcd] at h
          | true =>
            simp only [hcd, cond_true] at h
            simp only [Bool.and_eq_true, decide_eq_true_eq] at hcd
            cases hw : wr S id g off lim (repL (m + 1) zero) with
            | none => simp [hw] at h
            | some S1 =>
              simp only [hw, Option.some.injEq, Prod.mk.injEq] at h
              obtain ⟨rfl, rfl⟩ := h
              simp only [VRel] at hx
              obtain ⟨pl, c, p1, p2, p3, p4, p5, hh⟩ := hx
              rcases hh with ⟨rfl, _⟩ | ⟨e2, _⟩
              · obtain ⟨zc, zr, zrel⟩ := zero_run hcx hz
                have hzc := cellsOf_rel hc (zrel ρ)
                have hzs : zc.cells.size = sz := by have := hzc.length; simp at this; omega
                have hzero : Cells ρ (repL (m + 1) zero) (Builtin.zeroCells zc.cells (m + 1)).toList := by
                  have e1 : (Builtin.zeroCells zc.cells (m + 1)).toList = List.flatten (List.replicate (m + 1) zc.cells.toList) := by
                    unfold Builtin.zeroCells
                    exact zeros_eq zc.cells (m + 1) _ rfl
                  rw [e1]; exact repL_rel hzc _
                obtain ⟨w', r1, r2, r3⟩ := store_row (P := P) hR hw p1 p2 hzero.1 hzero.2
                refine ⟨w', ?_, rfl, r2, r3⟩
                rw [def0]
                simp only [Sem.run_bind, run_und hcx hu, Result.andThen_ok, zr, r1, Sem.run_pure]
              · omega
      · cases h
  · cases h

/-! ### unsafe.String -/
theorem mayFrz_ok {frz : Bool} {low top : Nat} {cells : List AV} {ty : TypeId} (h : mayFrz frz low = true) : ¬ Frz (.row cells low top frz ty) := by
  rintro ⟨c, l, t, y, e⟩
  cases e
  simp [mayFrz, nbeq] at h
theorem R.freeze {ρ : Rho} {S : AS} {w : World} {id low top g off n : Nat} {cells : List AV} {frz : Bool} {ty : TypeId} {pl : Pl} (h : R Λ ρ S w)
    (ho : S.h.get id = some (.row cells low top frz ty)) (hp : ρ id g = some pl) (hn : n ≠ 0) (hz : ¬ Frz (.row cells low top frz ty)) :
    R Λ ρ ⟨S.h.set id (.row cells low top true ty), S.next⟩ (w.freeze ⟨pl.b, off, none⟩ n) ∧ Kp ρ S w ρ ⟨S.h.set id (.row cells low top true ty), S.next⟩ (w.freeze ⟨pl.b, off, none⟩ n) := by
  have hfz : ∀ k, (w.freeze ⟨pl.b, off, none⟩ n).heap[k]? = if k = pl.b then (w.heap[k]?).map (fun | .cells c elem (lo, hi) => .cells c elem (if lo == hi then (off, off + n) else (min lo off, max hi (off + n))) | o => o) else w.heap[k]? := by
    intro k
    simp only [World.freeze, if_neg hn, Array.getElem?_modify]
    by_cases hk : pl.b = k
    · subst hk; rw [if_pos rfl, if_pos rfl]; rfl
    · rw [if_neg hk, if_neg (Ne.symm hk)]
  have hsz : (w.freeze ⟨pl.b, off, none⟩ n).heap.size = w.heap.size := by simp [World.freeze, if_neg hn]
  refine h.change (fun k => k = pl.b) (Ext.refl _) (fun _ _ _ => rfl) ⟨by simp [World.freeze, if_neg hn], by simp [World.freeze, if_neg hn], by simp [World.freeze, if_neg hn]⟩ (Nat.le_of_eq hsz.symm) (fun k _ hk => by rw [hfz, if_neg hk]) ?_ ?_ ?_ ?_ ?_ ?_ (Nat.le_refl _) (h.dom id _ ho) (fun g i hi => h.fresh i g hi) (.inl ⟨_, ho⟩)
  · rintro k _ rfl; exact ⟨_, g, pl, ho, hz, hp, rfl⟩
  · intro o2 ho2 hf; rw [ho] at ho2; cases ho2; exact (hz hf).elim
  · intro i oi gi pli hi hoi hpi he
    exact (h.apart i id oi _ gi g pli pl hi hoi ho hpi hp).elim (fun h1 => h1 he) (fun h1 => hz h1.2)
  · obtain ⟨h1, h2, h3⟩ := h.objs id _ ho
    refine ⟨h1, fun k k1 k2 => ?_, h3⟩
    obtain ⟨q, C, fr, g1, g2, g3, g4, g5, g6, g7, g8, g9⟩ := h2 k k1 k2
    by_cases hq : q.b = pl.b
    · obtain ⟨lo, hi⟩ := fr
      refine ⟨q, C, _, g1, by rw [hfz, if_pos hq, g2]; rfl, g3, g4, g5, g6, g7, fun hf => by (cases hf), g9.1, fun hf => by (cases hf)⟩
    · exact ⟨q, C, fr, g1, by rw [hfz, if_neg hq]; exact g2, g3, g4, g5, g6, g7, fun hf => by (cases hf), g9.1, fun hf => by (cases hf)⟩
  · intro a b c d t he k hk
    cases he
    exact h.topg id _ _ _ _ _ ho k hk
  · intro k pl' hp'
    exact ⟨by rw [hsz]; exact h.lt id _ k pl' ho hp', .inl ⟨_, k, ho, pl', hp', rfl⟩⟩

/-- Two rows apart: the library's word. -/
theorem apart_run {P : Program} {ρ : Rho} {S : AS} {w : World} (hR : R Λ ρ S w) {t tR e : TypeId} {size : Nat} (ht : P.underlying t = some (.slice e)) (hz : ∀ w, (Go.sizeOf e).run P w = .ok size w) {as : List AV} {v : AV} {args : Array Value}
    (h : apartV S as = some v) (hl : LRel ρ as args.toList) : (Extern.SlicesOverlaps.overlaps #[t, t] #[tR] args).run P w = .ok (.bool false) w ∧ VRel ρ v (.bool false) := by
  unfold apartV at h
  split at h
  · rename_i id g off len lim sz cap id' g' off' len' lim' sz' cap'
    simp only [LRel] at hl
    obtain ⟨y, ys, hy, hyr, y2, ys2, rfl, hyr2, rfl⟩ := hl
    have : args = #[y, y2] := Array.ext' (by simpa using hy)
    subst this
    rw [nbeq] at h
    by_cases hid : id = id'
    · rw [decide_eq_true hid] at h; cases h
    · rw [decide_eq_false hid, cond_false] at h
      have key : ∃ cells low top ty cells' low' top' frz' ty', S.h.get id = some (.row cells low top false ty) ∧ S.h.get id' = some (.row cells' low' top' frz' ty') ∧ cond (Nat.ble low g && Nat.ble g top && (Nat.ble low' g' && Nat.ble g' top')) (some (AV.bool false)) none = some v := by
        cases h1 : S.h.get id with
        | none => simp [h1] at h
        | some o =>
          cases o with
          | map a b => simp [h1] at h
          | oth a => simp [h1] at h
          | row cells low top frz ty =>
            cases frz with
            | true => simp [h1] at h
            | false =>
              cases h2 : S.h.get id' with
              | none => simp [h1, h2] at h
              | some o =>
                cases o with
                | map a b => simp [h1, h2] at h
                | oth a => simp [h1, h2] at h
                | row cells' low' top' frz' ty' =>
                  cases frz' with
                  | true => simp [h1, h2] at h
                  | false =>
                    rw [h1, h2] at h
                    exact ⟨_, _, _, _, _, _, _, _, _, rfl, rfl, h⟩
      obtain ⟨cells, low, top, ty, cells', low', top', frz', ty', h1, h2, h⟩ := key
      ·
        simp only [nble] at h
        cases hc : (decide (low ≤ g) && decide (g ≤ top) && (decide (low' ≤ g') && decide (g' ≤ top'))) with
        | false => rw [hc] at h; cases h
        | true =>
          rw [hc, cond_true] at h
          cases h
          simp only [Bool.and_eq_true, decide_eq_true_eq] at hc
          refine ⟨?_, by simp [VRel]⟩
          obtain ⟨_, b2, _⟩ := hR.objs id _ h1
          obtain ⟨pl, C, fr, g1, g2, g3, g4, g5, g6, g7, g8, _⟩ := b2 g hc.1.1 hc.1.2
          obtain ⟨_, c2, _⟩ := hR.objs id' _ h2
          obtain ⟨pl', C', fr', k1, k2, k3, k4, k5, k6, k7, k8, _⟩ := c2 g' hc.2.1 hc.2.2
          simp only [VRel] at hyr hyr2
          obtain ⟨p, c, p1, p2, p3, p4, p5, p6⟩ := hyr
          obtain ⟨q, d, q1, q2, q3, q4, q5, q6⟩ := hyr2
          rw [g1] at p1; cases p1
          rw [k1] at q1; cases q1
          have hne : pl.b ≠ pl'.b := by
            rcases hR.apart id id' _ _ g g' pl pl' hid h1 h2 g1 k1 with h | h
            · exact h
            · exact absurd h.1 frz_free
          have hzero : ∀ (a b : Option Addr) (la ca lb cb : Nat), (la = 0 ∨ lb = 0) → (Extern.SlicesOverlaps.overlaps #[t, t] #[tR] #[.slice a la ca, .slice b lb cb]).run P w = .ok (.bool false) w := by
            intro a b la ca lb cb h0
            have h0' : la = 0 ∨ lb = 0 ∨ size = 0 := by rcases h0 with h | h <;> simp [h]
            change Sem.run P (α := Value) (do
              let some t := (#[t, t] : Array TypeId)[0]? | stuck "slices.overlaps: no parameter types"
              let .slice elem ← underlying t | stuck "slices.overlaps: slice type expected"
              let size ← sizeOf elem
              match a, b with
              | some a, some b =>
                if la = 0 ∨ lb = 0 ∨ size = 0 then pure (Value.bool false)
                else if a.block != b.block && (← frozen a) && (← frozen b) then unsupported .addressObserved
                else do
                  if a.block != b.block then do
                    noView a; noView b
                    if ← mayBeOne a b then return Value.bool ((← choose (.extern "sameAddr.stringBytes" 2)) == 1)
                  pure (Value.bool (a.block == b.block && a.off < b.off + lb * size && b.off < a.off + la * size))
              | _, _ => pure (Value.bool false)) w = _
            cases a <;> cases b <;> simp [run_underlying ht, hz, h0']
          rcases p6 with ⟨e1, e2, e3⟩ | ⟨e1, e2, e3, a', e4⟩
          · rcases q6 with ⟨f1, f2, f3⟩ | ⟨f1, f2, f3, a'', f4⟩
            · subst e1 f1
              by_cases h0 : len = 0 ∨ len' = 0
              · exact hzero _ _ _ _ _ _ h0
              · have hl1 : 0 < len * sz := Nat.mul_pos (by omega) p4
                have hl2 : 0 < len' * sz' := Nat.mul_pos (by omega) q4
                refine Lib.run_overlaps_apart w t tR e ht size hz ⟨pl.b, pl.base + off, none⟩ ⟨pl'.b, pl'.base + off', none⟩ len c len' d hne ty ty' C.size C'.size ?_ ?_ ?_ ?_ ?_
                · simp [World.shape?, g2]
                · simp [World.shape?, k2]
                · rw [k3]; omega
                · rw [froz_at g2]; exact g8 rfl _ (by omega)
                · show w.frozen? ⟨pl.b, C.size, none⟩ = false
                  rw [froz_at g2]; exact g8 rfl _ (by omega)
            · subst e1 f4
              exact hzero _ _ _ _ _ _ (.inr rfl)
          · subst e4
            rcases q6 with ⟨f1, f2, f3⟩ | ⟨f1, f2, f3, a'', f4⟩
            · subst f1
              exact hzero _ _ _ _ _ _ (.inl rfl)
            · subst f4
              exact hzero _ _ _ _ _ _ (.inl rfl)
  · cases h
theorem extS_run {P : Program} {cx : Cx} {ρ : Rho} {S : AS} {w : World} (hR : R Λ ρ S w) (hcx : CxOk Λ P cx) {f : FuncId} {x : Xf} {as : List AV} {v : AV} {args : Array Value} (hx : cx.exts.get f = some x) (h : extS x S as = some v) (hl : LRel ρ as args.toList) :
    ∃ z, (callFunc f args).run P w = .ok (.value z) w ∧ VRel ρ v z := by
  cases x with
  | apart =>
    obtain ⟨t, tR, e, size, h1, h2, h3⟩ := hcx.exts f _ hx
    obtain ⟨r1, r2⟩ := apart_run (tR := tR) hR h1 h2 h hl
    exact ⟨.bool false, by rw [h3, r1]; rfl, r2⟩
  | ident => exact extV_run hcx hx h hl
  | cmpstr => exact extV_run hcx hx h hl
  | idxByte => exact extV_run hcx hx h hl
  | idxStr => exact extV_run hcx hx h hl
  | cntStr => exact extV_run hcx hx h hl
  | noZero e => exact extV_run hcx hx h hl
theorem digits_byte : ∀ (n t : Nat) (acc : Array Value), (∀ c, c ∈ acc.toList → c.oneCell' = true) → ∀ c, c ∈ (Extern.BytealgMakeNoZero.digits n t acc).toList → c.oneCell' = true
  | 0, _, acc, h, c, hc => h c hc
  | n + 1, t, acc, h, c, hc => digits_byte n (t / 256) _ (fun c hc => by
      rw [Array.toList_push] at hc
      rcases List.mem_append.1 hc with h1 | h1
      · exact h c h1
      · simp only [List.mem_singleton] at h1
        subst h1
        rfl) c hc
theorem noZero_run {P : Program} (w : World) (ps : Array TypeId) (t e : TypeId) (ht : P.underlying t = some (.slice e)) (n : Nat) (hn : n ≤ 281474976710656) :
    ∃ cs : Array Value, (Extern.BytealgMakeNoZero.makeNoZero ps #[t] #[.int .i64 n]).run P w = .ok (.slice (some ⟨w.heap.size, 0, none⟩) n cs.size) (w.drew.drew.alloc (.cells cs e)) ∧ n ≤ cs.size ∧ ∀ c, c ∈ cs.toList → c.oneCell' = true := by
  have hdef : Extern.BytealgMakeNoZero.makeNoZero ps #[t] #[.int .i64 n] =
      (do
        let .slice elem ← underlying t | stuck "bytealg.MakeNoZero: slice type expected"
        if (n : Int) < 0 || (n : Int) > 2 ^ 48 then runtimePanic (.error "makeslice: len out of range")
        let cap ← choose (.appendCap (n : Int).toNat 0 elem)
        askRoom cap
        let bytes ← choose (.extern "internal/bytealg.MakeNoZero.bytes" 0)
        let a ← newRow elem (Extern.BytealgMakeNoZero.digits cap bytes #[])
        pure (.slice (some a) (n : Int).toNat cap)) := rfl
  refine ⟨Extern.BytealgMakeNoZero.digits (grownCap w n 0 e) ((Question.extern "internal/bytealg.MakeNoZero.bytes" 0).cut (w.tape (w.drawn + 1) (.extern "internal/bytealg.MakeNoZero.bytes" 0))) #[], ?_, ?_, digits_byte _ _ _ (fun c hc => by cases hc)⟩
  · rw [hdef]
    have h1 : ¬ (n : Int) < 0 := by omega
    have h2 : ¬ (281474976710656 : Int) < (n : Int) := by omega
    simp [run_underlying ht, h1, h2, Question.forced, newRow, Lib.size_digits, grownCap]
  · rw [Lib.size_digits]
    simpa using grownCap_ge w n 0 e
theorem repL_top : ∀ n : Nat, repL n [AV.top] = List.replicate n AV.top
  | 0 => rfl
  | n + 1 => by
    show appL [AV.top] (repL n [AV.top]) = _
    rw [appL_eq, repL_top n]
    rfl
theorem tops_rel (ρ : Rho) : ∀ (n : Nat) (l : List Value), l.length = n → LRel ρ (List.replicate n AV.top) l
  | 0, [], _ => by simp [LRel]
  | 0, _ :: _, h => by simp at h
  | n + 1, [], h => by simp at h
  | n + 1, y :: l, h => by
    rw [List.replicate_succ]
    simp only [LRel]
    exact ⟨y, l, rfl, by simp only [VRel], tops_rel ρ n l (by simpa using h)⟩
theorem extM_run {P : Program} {cx : Cx} {ρ : Rho} {S S' : AS} {w : World} (hR : R Λ ρ S w) (hcx : CxOk Λ P cx) {f : FuncId} {x : Xf} {as : List AV} {v : AV} {args : Array Value} (hx : cx.exts.get f = some x) (h : extM x S as = some (v, S')) (hl : LRel ρ as args.toList) :
    ∃ z ρ' w', (callFunc f args).run P w = .ok (.value z) w' ∧ VRel ρ' v z ∧ R Λ ρ' S' w' ∧ Kp ρ S w ρ' S' w' := by
  have still : (match extS x S as with | some v => some (v, S) | none => none) = some (v, S') → ∃ z ρ' w', (callFunc f args).run P w = .ok (.value z) w' ∧ VRel ρ' v z ∧ R Λ ρ' S' w' ∧ Kp ρ S w ρ' S' w' := by
    intro h
    cases he : extS x S as with
    | none => rw [he] at h; cases h
    | some u =>
      rw [he] at h
      cases h
      obtain ⟨z, h1, h2⟩ := extS_run hR hcx hx he hl
      exact ⟨z, ρ, w, h1, h2, hR, Kp.refl _ _ _⟩
  cases x with
  | noZero e =>
    unfold extM noZeroV at h
    simp only [] at h
    split at h
    · rename_i n
      rw [nble, nble, forceN_eq] at h
      by_cases hn : 1 ≤ n ∧ n ≤ 281474976710656
      · simp only [hn.1, hn.2, decide_true, Bool.and_self, cond_true, Option.some.injEq, Prod.mk.injEq] at h
        obtain ⟨rfl, rfl⟩ := h
        simp only [LRel, VRel] at hl
        obtain ⟨y, ys, hy, rfl, rfl⟩ := hl
        have : args = #[.int .i64 (.ofNat n)] := Array.ext' (by simpa using hy)
        subst this
        obtain ⟨ps, t, ht, hrun⟩ := hcx.exts f _ hx
        obtain ⟨cs, h1, h2, h3⟩ := noZero_run w ps t e ht n hn.2
        have hlen : (repL n [AV.top]).length = n := by rw [repL_top, List.length_replicate]
        have hg : Grew (.cells cs e) w (w.drew.drew.alloc (.cells cs e)) := ⟨⟨rfl, rfl, rfl⟩, rfl⟩
        obtain ⟨ρ', pl, p1, p2, p3, p4, p5, p6, p7⟩ := hR.newRow (cells := repL n [.top]) (C := cs) (e := e) hg (by
          rw [hlen, repL_top]
          exact tops_rel ρ n _ (by rw [List.length_take, Array.length_toList]; omega)) (by rw [hlen]; exact h2) (OnesC.of h3)
        refine ⟨_, ρ', _, by rw [hrun]; show ((Extern.BytealgMakeNoZero.makeNoZero ps #[t] #[.int .i64 (n : Int)]).run P w).andThen _ = _; rw [h1]; rfl, ?_, p6, p7⟩
        simp only [VRel]
        exact ⟨pl, cs.size, p1, by omega, by omega, by omega, h2, .inl ⟨by rw [p2, p3], by omega, fun k hk => by cases hk⟩⟩
      · exfalso
        have : (decide (1 ≤ n) && decide (n ≤ 281474976710656)) = false := by simpa using hn
        rw [this] at h
        cases h
    · cases h
  | ident => exact still h
  | cmpstr => exact still h
  | idxByte => exact still h
  | idxStr => exact still h
  | apart => exact still h
  | cntStr => exact still h

theorem liesAt_one {P : Program} {e : TypeId} (hc : P.cellsOf e = 1) (count off n : Nat) (hn : off + n ≤ count) : liesAt P P.depth e count off e n = true := by
  have hd : P.depth = (2 * (P.types.size + Made.depth) + 1) + 1 := rfl
  rw [hd]
  simp only [liesAt, Bool.or_eq_true]
  left
  rw [hd]
  simp [rowAt, hc, sameLayout, hn, Nat.mod_one]
theorem liesAt_head {P : Program} {e : TypeId} {s : Nat} (hc : P.cellsOf e = s) (hs : s ≠ 0) (count : Nat) (hn : 1 ≤ count) : liesAt P P.depth e count 0 e 1 = true := by
  have hd : P.depth = (2 * (P.types.size + Made.depth) + 1) + 1 := rfl
  rw [hd]
  simp only [liesAt, Bool.or_eq_true]
  left
  rw [hd]
  simp [rowAt, hc, sameLayout, hn, hs]

theorem cellsOf_sz {P : Program} {cx : Cx} (hcx : CxOk Λ P cx) {t : TypeId} {n : Nat} (h : szOf cx t = some n) : P.cellsOf t = n := by
  unfold szOf at h
  cases hi : cx.tys.get t with
  | none => simp [hi] at h
  | some i =>
    simp only [hi, Option.some.injEq] at h
    simp [Program.cellsOf, hcx.tys t i hi, h]

end Go.Am
