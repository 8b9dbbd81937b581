/-
  The abstract machine against the model: what reckons alone, more: slices, aggregates, conversions.
  The abstract machine against the model: aggregates, zeros, operands.
-/
import Derived.Test.YtpgmahedcpepkaaGreatDoorAmEq
namespace Go.Am
open Go
variable {Λ : LB}

theorem natOf_rel {ρ : Rho} {x : AV} {v : Value} {n : Nat} (h : natOf x = some n) (hv : VRel ρ x v) : ∃ k, v = .int k (n : Int) := by
  cases x <;> simp only [natOf] at h <;> (try (cases h; done))
  rename_i k m
  cases m with
  | negSucc m => cases h
  | ofNat m => simp only [Option.some.injEq] at h; subst h; simp only [VRel] at hv; exact ⟨k, hv⟩

theorem sliceBound_run {P : Program} {k : IntKind} {i y : Nat} {code : BoundsCode} (h : i ≤ y) (w : World) : (Instr.sliceBound (.int k (i : Int)) y code).run P w = .ok i w := by
  have : (0 : Int) ≤ i ∧ (i : Int) ≤ y := by omega
  simp [Instr.sliceBound, asIntOf, this]

/-- A bound's operand, as the model has it. -/
theorem bound_val {ρ : Rho} {F : Fr} {a : Act} (hF : FRel ρ F a) {x : Operand} {d n : Nat} (h : bound F (some x) d = some n) : ∃ k, a.eval x = .int k (n : Int) :=
  natOf_rel h (hF.eval x)

theorem sliceBounds_run {P : Program} {ρ : Rho} {F : Fr} {a : Act} (hF : FRel ρ F a) {isSl : Bool} {len cap l h m : Nat} {lo hi mx : Option Operand}
    (hl : bound F lo 0 = some l) (hh : bound F hi len = some h) (hm0 : mx = none → m = cap) (hm1 : ∀ o, mx = some o → natOf (eval F o) = some m) (hx : mx = none ∨ hi ≠ none)
    (h1 : l ≤ h) (h2 : h ≤ m) (h3 : m ≤ cap) (w : World) :
    (Instr.sliceBounds isSl len cap (lo.map a.eval) (hi.map a.eval) (mx.map a.eval)).run P w = .ok (l, h, m) w := by
  unfold Instr.sliceBounds
  cases mx with
  | none =>
    obtain rfl := hm0 rfl
    cases hi with
    | none =>
      simp only [bound, Option.some.injEq] at hh
      subst hh
      cases lo with
      | none => simp only [bound, Option.some.injEq] at hl; subst hl; simp
      | some lo => obtain ⟨k, e⟩ := bound_val hF hl; simp [e, sliceBound_run h1]
    | some hi =>
      obtain ⟨k, e⟩ := bound_val hF hh
      cases lo with
      | none => simp only [bound, Option.some.injEq] at hl; subst hl; simp [e, sliceBound_run h2]
      | some lo => obtain ⟨k2, e2⟩ := bound_val hF hl; simp [e, e2, sliceBound_run h1, sliceBound_run h2]
  | some mx =>
    obtain ⟨k, e⟩ := natOf_rel (hm1 mx rfl) (hF.eval mx)
    cases hi with
    | none => exact absurd rfl (hx.resolve_left (by simp))
    | some hi =>
      obtain ⟨k2, e2⟩ := bound_val hF hh
      cases lo with
      | none => simp only [bound, Option.some.injEq] at hl; subst hl; simp [e, e2, sliceBound_run h2, sliceBound_run h3]
      | some lo => obtain ⟨k3, e3⟩ := bound_val hF hl; simp [e, e2, e3, sliceBound_run h1, sliceBound_run h2, sliceBound_run h3]

/-- The bounds, as the machine and the model have them; without a max the model takes the room that it knows. -/
theorem bounds_run {P : Program} {ρ : Rho} {F : Fr} {a : Act} (hF : FRel ρ F a) {isSl : Bool} {len room cap l h m : Nat} {lo hi mx : Option Operand}
    (hb : bounds F len room lo hi mx = some (l, h, m)) (hr : room ≤ cap) :
    l ≤ h ∧ h ≤ m ∧ m ≤ room ∧ (mx = none → m = room) ∧
      ∀ w, ∃ m', (Instr.sliceBounds isSl len cap (lo.map a.eval) (hi.map a.eval) (mx.map a.eval)).run P w = .ok (l, h, m') w ∧ (mx = none → m' = cap) ∧ (isS mx = true → m' = m) := by
  unfold bounds at hb
  cases hl : bound F lo 0 with
  | none => simp [hl] at hb
  | some l0 =>
    cases hh : bound F hi len with
    | none => simp [hl, hh] at hb
    | some h0 =>
      cases hm' : bound F mx room with
      | none => simp [hl, hh, hm'] at hb
      | some m0 =>
        simp only [hl, hh, hm', nble] at hb
        cases hc : (decide (l0 ≤ h0) && decide (h0 ≤ m0) && decide (m0 ≤ room) && (!isS mx || isS hi)) with
        | false => simp [hc] at hb
        | true =>
          simp only [hc, cond_true, Option.some.injEq, Prod.mk.injEq] at hb
          obtain ⟨rfl, rfl, rfl⟩ := hb
          simp only [Bool.and_eq_true, decide_eq_true_eq] at hc
          obtain ⟨⟨⟨c1, c2⟩, c3⟩, c4⟩ := hc
          refine ⟨c1, c2, c3, fun e => by subst e; simp only [bound, Option.some.injEq] at hm'; exact hm'.symm, fun w => ?_⟩
          cases mx with
          | none =>
            simp only [bound, Option.some.injEq] at hm'
            subst hm'
            exact ⟨cap, sliceBounds_run hF hl hh (fun _ => rfl) (fun o e => by cases e) (.inl rfl) c1 (by omega) (Nat.le_refl _) w, fun _ => rfl, fun e => by cases e⟩
          | some mx =>
            refine ⟨m0, sliceBounds_run hF hl hh (fun e => by cases e) (fun o e => by cases e; exact hm') (.inr ?_) c1 c2 (by omega) w, (fun e => by cases e), fun _ => rfl⟩
            rintro rfl
            simp [isS] at c4

theorem str_cut {b : ByteArray} {s : List Nat} (h : b.data.toList.map UInt8.toNat = s) (l u : Nat) : (b.extract l u).data.toList.map UInt8.toNat = (s.drop l).take (u - l) := by
  rw [← h, ByteArray.data_extract, Array.toList_extract, List.extract_eq_take_drop, List.map_take, List.map_drop]

theorem VRel.slice_mk {ρ : Rho} {id g off len lim sz : Nat} {cap : Option Nat} {v : Value} (pl : Pl) (c : Nat) (p1 : ρ id g = some pl) (p2 : lim ≤ pl.n) (p3 : off + len * sz ≤ lim) (p4 : 0 < sz) (p5 : len ≤ c)
    (hh : (v = .slice (some ⟨pl.b, pl.base + off, none⟩) len c ∧ pl.base + off + c * sz ≤ pl.N ∧ (∀ k, cap = some k → c = k ∧ off + k * sz ≤ lim)) ∨
       (len = 0 ∧ c = 0 ∧ (∀ k, cap = some k → k = 0) ∧ ∃ a, v = .slice (some a) 0 0)) : VRel ρ (.slice id g off len lim sz cap) v := by
  simp only [VRel]; exact ⟨pl, c, p1, p2, p3, p4, p5, hh⟩
theorem cutV_rel {ρ : Rho} {id g off len lim sz l h m c : Nat} {cap : Option Nat} {v : Value} {a : Option Addr}
    (hv : VRel ρ (.slice id g off len lim sz cap) (.slice a len c)) (hlh : l ≤ h) (hhm : h ≤ m) (hmc : m ≤ c) (hml : off + m * sz ≤ lim)
    (he : v = .slice (if m = l then a else a.map (·.add (l * sz))) (h - l) (m - l)) : VRel ρ (cutV id g off lim sz l h m) v := by
  subst he
  unfold cutV
  simp only [nbeq, forceN_eq]
  simp only [VRel] at hv
  obtain ⟨pl, c', p1, p2, p3, p4, p5, hh⟩ := hv
  by_cases hm : m = l
  · have hl : h = l := by omega
    subst hm hl
    rw [decide_eq_true rfl]
    simp only [cond_true, if_true, Nat.sub_self]
    refine VRel.slice_mk pl 0 p1 p2 ?_ p4 (Nat.le_refl _) ?_
    · have : off ≤ lim := Nat.le_trans (Nat.le_add_right _ _) hml
      omega
    · rcases hh with ⟨e, q1, q2⟩ | ⟨e1, e2, e3, a', e⟩
      · cases e
        refine .inl ⟨rfl, by omega, fun k hk => ?_⟩
        cases hk
        exact ⟨rfl, by have := Nat.le_add_right off (h * sz); omega⟩
      · cases e
        exact .inr ⟨rfl, rfl, fun k hk => by cases hk; rfl, _, rfl⟩
  · rw [decide_eq_false hm]
    simp only [cond_false, if_neg hm]
    have hc0 : 0 < m := by omega
    have eL : off + l * sz + (h - l) * sz = off + h * sz := by
      rw [Nat.add_assoc, ← Nat.add_mul]; congr 2; omega
    have eM : off + l * sz + (m - l) * sz = off + m * sz := by
      rw [Nat.add_assoc, ← Nat.add_mul]; congr 2; omega
    have hhs : h * sz ≤ m * sz := Nat.mul_le_mul_right _ hhm
    have g1 : off + l * sz + (h - l) * sz ≤ lim := by rw [eL]; omega
    have g2 : off + l * sz + (m - l) * sz ≤ lim := by rw [eM]; exact hml
    rcases hh with ⟨e, q1, q2⟩ | ⟨e1, e2, e3, a', e⟩
    · cases e
      refine VRel.slice_mk pl (m - l) p1 p2 g1 p4 (Nat.sub_le_sub_right hhm l) (.inl ⟨?_, ?_, fun k hk => ?_⟩)
      · show Value.slice ((some (⟨pl.b, pl.base + off, none⟩ : Addr)).map (·.add (l * sz))) (h - l) (m - l) = .slice (some ⟨pl.b, pl.base + (off + l * sz), none⟩) (h - l) (m - l)
        rw [Option.map_some, Addr_add, Nat.add_assoc]
      · have : m * sz ≤ c * sz := Nat.mul_le_mul_right _ hmc
        show pl.base + (off + l * sz) + (m - l) * sz ≤ pl.N
        have e3 : pl.base + (off + l * sz) + (m - l) * sz = pl.base + (off + l * sz + (m - l) * sz) := by omega
        rw [e3, eM]; omega
      · cases hk
        exact ⟨rfl, g2⟩
    · cases e; omega

/-- Sliced where the room is not known. -/
theorem openV_rel {ρ : Rho} {id g off len lim sz l h c : Nat} {v : Value} {a : Option Addr}
    (hv : VRel ρ (.slice id g off len lim sz none) (.slice a len c)) (hlh : l ≤ h) (hhm : h ≤ len)
    (he : v = .slice (if c = l then a else a.map (·.add (l * sz))) (h - l) (c - l)) : VRel ρ (.slice id g (off + l * sz) (h - l) lim sz none) v := by
  subst he
  simp only [VRel] at hv
  obtain ⟨pl, c', p1, p2, p3, p4, p5, hh⟩ := hv
  have eL : off + l * sz + (h - l) * sz = off + h * sz := by
    rw [Nat.add_assoc, ← Nat.add_mul]; congr 2; omega
  have hhs : h * sz ≤ len * sz := Nat.mul_le_mul_right _ hhm
  have g1 : off + l * sz + (h - l) * sz ≤ lim := by rw [eL]; omega
  rcases hh with ⟨e, q1, q2⟩ | ⟨e1, e2, e3, a', e⟩
  · cases e
    refine VRel.slice_mk pl (c - l) p1 p2 g1 p4 (by omega) ?_
    by_cases hc : c = l
    · rw [if_pos hc]
      obtain rfl : h = l := by omega
      exact .inr ⟨by omega, by omega, fun k hk => (by cases hk), _, by rw [hc, Nat.sub_self]⟩
    · rw [if_neg hc]
      refine .inl ⟨by rw [Option.map_some, Addr_add, Nat.add_assoc], ?_, fun k hk => by cases hk⟩
      have e3 : pl.base + (off + l * sz) + (c - l) * sz = pl.base + off + (l * sz + (c - l) * sz) := by omega
      have e4 : l * sz + (c - l) * sz = c * sz := by rw [← Nat.add_mul]; congr 1; omega
      rw [e3, e4]; exact q1
  · cases e
    obtain rfl : l = 0 := by omega
    obtain rfl : h = 0 := by omega
    exact VRel.slice_mk pl 0 p1 p2 (by simpa using (by omega : off ≤ lim)) p4 (Nat.le_refl _) (.inr ⟨rfl, rfl, fun k hk => (by cases hk), a', by simp⟩)

theorem slice_val {ρ : Rho} {id g off len lim sz : Nat} {cap : Option Nat} {v : Value} (hv : VRel ρ (.slice id g off len lim sz cap) v) :
    ∃ a c, v = .slice (some a) len c ∧ len ≤ c ∧ ∀ k, cap = some k → c = k := by
  simp only [VRel] at hv
  obtain ⟨pl, c, p1, p2, p3, p4, p5, hh⟩ := hv
  rcases hh with ⟨e, q1, q2⟩ | ⟨e1, e2, e3, a', e⟩
  · exact ⟨_, c, e, p5, fun k hk => (q2 k hk).1⟩
  · subst e1 e2; exact ⟨a', 0, e, Nat.le_refl _, fun k hk => (e3 k hk).symm⟩
theorem slice_room {ρ : Rho} {id g off len lim sz k : Nat} {v : Value} (hv : VRel ρ (.slice id g off len lim sz (some k)) v) : off + k * sz ≤ lim := by
  simp only [VRel] at hv
  obtain ⟨pl, c, p1, p2, p3, p4, p5, hh⟩ := hv
  rcases hh with ⟨e, q1, q2⟩ | ⟨e1, e2, e3, a', e⟩
  · exact (q2 k rfl).2
  · have := e3 k rfl; subst this; omega
theorem slice_len {ρ : Rho} {id g off len lim sz : Nat} {cap : Option Nat} {v : Value} (hv : VRel ρ (.slice id g off len lim sz cap) v) : off + len * sz ≤ lim := by
  simp only [VRel] at hv
  obtain ⟨pl, c, p1, p2, p3, _⟩ := hv; exact p3

theorem sliceV_run {P : Program} {cx : Cx} (hcx : CxOk Λ P cx) {ρ : Rho} {F : Fr} {a : Act} (hF : FRel ρ F a) {t : TypeId} {x v : AV} {x' : Value} {lo hi mx : Option Operand}
    (h : sliceV cx F t x lo hi mx = some v) (hx : VRel ρ x x') (w : World) :
    ∃ z, (Instr.sliceAt t x' (lo.map a.eval) (hi.map a.eval) (mx.map a.eval)).run P w = .ok z w ∧ VRel ρ v z := by
  unfold sliceV at h
  cases hu : und cx t with
  | none => simp [hu] at h
  | some d =>
    have hru := run_und hcx hu w
    rw [hu] at h
    split at h
    · -- a string
      rename_i s heq
      cases heq
      simp only [VRel] at hx
      obtain ⟨b, rfl, hb⟩ := hx
      cases hbd : bounds F s.length s.length lo hi mx with
      | none => simp [hbd] at h
      | some r =>
        obtain ⟨l, u, m⟩ := r
        simp only [hbd] at h
        cases hs : isS mx with
        | true => simp [hs] at h
        | false =>
          have hmx : mx = none := by cases mx with | none => rfl | some _ => cases hs
          subst hmx
          simp only [hs, cond_false, Option.some.injEq, takeN_eq, dropN_eq, Nat.sub_eq] at h
          subst h
          obtain ⟨c1, c2, c3, c4, c5⟩ := bounds_run (P := P) hF (isSl := false) hbd (Nat.le_refl _)
          refine ⟨.string (b.extract l u), ?_, by simp only [VRel]; exact ⟨_, rfl, str_cut hb l u⟩⟩
          have hsz := size_str hb
          obtain ⟨m', this, _, _⟩ := c5 w
          rw [← hsz] at this
          simp only [Option.map_none] at this
          simp only [Instr.sliceAt, Instr.slice, Sem.run_bind, hru, Result.andThen_ok, Option.map_none, Option.isSome_none, Bool.false_eq_true, if_false, this]
          rfl
    · rename_i e heq
      cases heq
      simp only [VRel] at hx
      subst hx
      cases hs : szOf cx e with
      | none => simp [hs] at h
      | some n =>
        cases hbd : bounds F 0 0 lo hi mx with
        | none => simp [hs, hbd] at h
        | some r =>
          obtain ⟨l, u, m⟩ := r
          simp only [hs, hbd, Option.some.injEq] at h
          subst h
          obtain ⟨c1, c2, c3, c4, c5⟩ := bounds_run (P := P) hF (isSl := true) hbd (Nat.le_refl _)
          obtain ⟨m', h5, h6, h7⟩ := c5 w
          obtain ⟨rfl, rfl, rfl⟩ : l = 0 ∧ u = 0 ∧ m = 0 := by omega
          have hm0 : m' = 0 := by cases mx with | none => exact h6 rfl | some _ => exact h7 rfl
          subst hm0
          refine ⟨.slice none 0 0, ?_, by simp [VRel]⟩
          simp only [Instr.sliceAt, Instr.slice, Sem.run_bind, hru, Result.andThen_ok, h5, run_sz hcx hs]
          simp
    · rename_i e id g off len lim sz cap heq
      cases heq
      cases hs : szOf cx e with
      | none => simp [hs] at h
      | some z =>
        simp only [hs, nbeq] at h
        by_cases hz : z = sz
        · subst hz
          rw [decide_eq_true rfl] at h
          simp only [cond_true] at h
          obtain ⟨ad, c, rfl, hlc, hcap⟩ := slice_val hx
          cases hbd : bounds F len (roomOf len cap) lo hi mx with
          | none => simp [hbd] at h
          | some r =>
            obtain ⟨l, u, m⟩ := r
            simp only [hbd] at h
            have hroom : roomOf len cap ≤ c := by
              cases cap with
              | none => exact hlc
              | some k => exact Nat.le_of_eq (hcap k rfl).symm
            obtain ⟨c1, c2, c3, c4, c5⟩ := bounds_run (P := P) hF (isSl := true) hbd hroom
            obtain ⟨m', h5, h6, h7⟩ := c5 w
            have run : (Instr.sliceAt t (.slice (some ad) len c) (lo.map a.eval) (hi.map a.eval) (mx.map a.eval)).run P w =
                .ok (.slice (if m' = l then some ad else (some ad).map (·.add (l * z))) (u - l) (m' - l)) w := by
              simp only [Instr.sliceAt, Instr.slice, Sem.run_bind, hru, Result.andThen_ok, h5, run_sz hcx hs]
              rfl
            refine ⟨_, run, ?_⟩
            cases hd : (isS mx || isS cap) with
            | true =>
              simp only [hd, cond_true, Option.some.injEq] at h
              subst h
              have hm : m' = m := by
                cases mx with
                | some _ => exact h7 rfl
                | none =>
                  cases cap with
                  | none => simp [isS] at hd
                  | some k => rw [h6 rfl, c4 rfl, hcap k rfl]; rfl
              subst hm
              have hmc : m' ≤ c := by omega
              refine cutV_rel hx c1 c2 hmc ?_ rfl
              cases cap with
              | some k =>
                have := slice_room hx
                have h8 : m' * z ≤ k * z := Nat.mul_le_mul_right _ (show m' ≤ k from c3)
                omega
              | none =>
                have := slice_len hx
                have h8 : m' * z ≤ len * z := Nat.mul_le_mul_right _ (show m' ≤ len from c3)
                omega
            | false =>
              simp only [hd, cond_false, Option.some.injEq, forceN_eq] at h
              subst h
              simp only [Bool.or_eq_false_iff] at hd
              have hmx : mx = none := by cases mx with | none => rfl | some _ => simp [isS] at hd
              have hcp : cap = none := by cases cap with | none => rfl | some _ => simp [isS] at hd
              subst hmx hcp
              rw [h6 rfl]
              exact openV_rel hx c1 (Nat.le_trans c2 (show m ≤ len from c3)) rfl
        · rw [decide_eq_false hz] at h; cases h
    · rename_i n e id g off lim heq
      cases heq
      split at h
      · rename_i z hs
        cases hbd : bounds F n n lo hi mx with
        | none => simp [hbd] at h
        | some r =>
          obtain ⟨l, u, m⟩ := r
          simp only [hbd, nble] at h
          by_cases hlim : off.add (n.mul (Nat.succ z)) ≤ lim
          · rw [decide_eq_true hlim] at h
            simp only [cond_true, Option.some.injEq] at h
            subst h
            obtain ⟨c1, c2, c3, c4, c5⟩ := bounds_run (P := P) hF (isSl := false) hbd (Nat.le_refl _)
            obtain ⟨m', h5, h6, h7⟩ := c5 w
            have hm : m' = m := by
              cases mx with
              | some _ => exact h7 rfl
              | none => rw [h6 rfl, c4 rfl]
            subst hm
            simp only [VRel] at hx
            obtain ⟨pl, p1, p2, rfl⟩ := hx
            have hlim' : off + n * (z + 1) ≤ lim := hlim
            have run : (Instr.sliceAt t (.pointer (some ⟨pl.b, pl.base + off, none⟩)) (lo.map a.eval) (hi.map a.eval) (mx.map a.eval)).run P w =
                .ok (.slice (some (if m' = l then ⟨pl.b, pl.base + off, none⟩ else (⟨pl.b, pl.base + off, none⟩ : Addr).add (l * (z + 1)))) (u - l) (m' - l)) w := by
              simp only [Instr.sliceAt, Instr.sureAddr, Sem.run_bind, hru, Result.andThen_ok, h5, run_sz hcx hs, Sem.run_pure]
            refine ⟨_, run, ?_⟩
            have hv : VRel ρ (.slice id g off n lim (z + 1) (some n)) (.slice (some ⟨pl.b, pl.base + off, none⟩) n n) := by
              refine VRel.slice_mk pl n p1 p2 hlim' (Nat.succ_pos _) (Nat.le_refl _) (.inl ⟨rfl, ?_, fun k hk => ?_⟩)
              · have := pl.le; omega
              · cases hk; exact ⟨rfl, hlim'⟩
            refine cutV_rel hv c1 c2 c3 ?_ ?_
            · have h8 : m' * (z + 1) ≤ n * (z + 1) := Nat.mul_le_mul_right _ c3
              show off + m' * (z + 1) ≤ lim
              omega
            · congr 1
              by_cases e : m' = l
              · rw [if_pos e, if_pos e]
              · rw [if_neg e, if_neg e]; rfl
          · rw [decide_eq_false hlim] at h; cases h
      · cases h
    · cases h

end Go.Am

namespace Go.Am
open Go
variable {Λ : LB}

/-- Cells that may stand in a row. -/
def Cells (ρ : Rho) (cs : List AV) (l : List Value) : Prop := LRel ρ cs l ∧ ∀ x, x ∈ l → x.oneCell' = true

theorem cellsOf_rel {ρ : Rho} {x : AV} {v : Value} {cs : List AV} (h : cellsOf x = some cs) (hx : VRel ρ x v) : Cells ρ cs v.cells.toList := by
  have single : (∀ a, v ≠ .agg a) → v.oneCell' = true → cs = [x] → Cells ρ cs v.cells.toList := by
    intro h1 h2 h3
    subst h3
    have e : v.cells = #[v] := by cases v <;> first | rfl | exact absurd rfl (h1 _)
    rw [e]
    exact ⟨LRel.cons hx LRel.nil, fun y hy => by simp at hy; subst hy; exact h2⟩
  cases x <;> simp only [cellsOf, Option.some.injEq] at h <;> (try (cases h; done))
  case agg l =>
    subst h
    simp only [VRel] at hx
    obtain ⟨a, rfl, p, q⟩ := hx
    exact ⟨p, q⟩
  all_goals
    have hx' := hx
    simp only [VRel] at hx'
  · subst hx'; exact single (by simp) rfl h.symm
  · subst hx'; exact single (by simp) rfl h.symm
  · obtain ⟨b, rfl, _⟩ := hx'; exact single (by simp) rfl h.symm
  · subst hx'; exact single (by simp) rfl h.symm
  · obtain ⟨b, _, _, rfl⟩ := hx'; exact single (by simp) rfl h.symm
  · subst hx'; exact single (by simp) rfl h.symm
  · subst hx'; exact single (by simp) rfl h.symm
  · obtain ⟨_, _, _, _, _, _, _, hh⟩ := hx'
    rcases hh with ⟨rfl, _⟩ | ⟨_, _, _, _, rfl⟩ <;> exact single (by simp) rfl h.symm
  · subst hx'; exact single (by simp) rfl h.symm
  · obtain ⟨b, _, rfl⟩ := hx'; exact single (by simp) rfl h.symm
  · obtain ⟨_, _, rfl, _⟩ := hx'; exact single (by simp) rfl h.symm
  · subst hx'; exact single (by simp) rfl h.symm
  · subst hx'; exact single (by simp) rfl h.symm
  · obtain ⟨_, rfl, _⟩ := hx'; exact single (by simp) rfl h.symm
  · rename_i k id
    obtain ⟨pl, _, rfl⟩ := hx'
    cases k <;> exact single (by simp [OK.val]) rfl h.symm
  · subst hx'; exact single (by simp) rfl h.symm

theorem zero_run {P : Program} {cx : Cx} (hcx : CxOk Λ P cx) {t : TypeId} {z : AV} (h : zeroOf cx t = some z) :
    ∃ v, (∀ w, (zeroValue t).run P w = .ok v w) ∧ ∀ ρ, VRel ρ z v := by
  unfold zeroOf at h
  cases hi : cx.tys.get t with
  | none => simp [hi] at h
  | some i =>
    simp only [hi] at h
    cases hz : i.zero with
    | none => simp [hz] at h
    | some v =>
      simp only [hz, Option.some.injEq] at h
      subst h
      exact ⟨v, fun w => by simp [zeroValue, run_info hcx hi, hz], fun ρ => ofV_rel ρ v⟩

theorem Cells.length {ρ : Rho} {cs : List AV} {l : List Value} (h : Cells ρ cs l) : cs.length = l.length := h.1.length
theorem Cells.append {ρ : Rho} {cs cs' : List AV} {l l' : List Value} (h : Cells ρ cs l) (h' : Cells ρ cs' l') : Cells ρ (cs ++ cs') (l ++ l') :=
  ⟨h.1.append h'.1, fun x hx => (List.mem_append.1 hx).elim (h.2 x) (h'.2 x)⟩
theorem Cells.take {ρ : Rho} {cs : List AV} {l : List Value} (h : Cells ρ cs l) (n : Nat) : Cells ρ (cs.take n) (l.take n) := ⟨h.1.take n, fun x hx => h.2 x (List.mem_of_mem_take hx)⟩
theorem Cells.drop {ρ : Rho} {cs : List AV} {l : List Value} (h : Cells ρ cs l) (n : Nat) : Cells ρ (cs.drop n) (l.drop n) := ⟨h.1.drop n, fun x hx => h.2 x (List.mem_of_mem_drop hx)⟩

/-- What the model's fill does with one part. -/
theorem fill_step (off : Nat) : ∀ (new : List Value) (cs : Array Value) (k : Nat), off + k + new.length ≤ cs.size →
    ((new.zipIdx k).foldl (fun cs (c, j) => cs.setIfInBounds (off + j) c) cs).size = cs.size ∧
    ∀ i, ((new.zipIdx k).foldl (fun cs (c, j) => cs.setIfInBounds (off + j) c) cs)[i]? = if off + k ≤ i ∧ i < off + k + new.length then new[i - (off + k)]? else cs[i]? := by
  intro new
  induction new with
  | nil => intro cs k h; exact ⟨rfl, fun i => by rw [if_neg (by simp only [List.length_nil]; omega)]; rfl⟩
  | cons v new ih =>
    intro cs k h
    simp only [List.length_cons] at h
    simp only [List.zipIdx_cons, List.foldl_cons]
    obtain ⟨r1, r2⟩ := ih (cs.setIfInBounds (off + k) v) (k + 1) (by simp; omega)
    refine ⟨by rw [r1]; simp, fun i => ?_⟩
    rw [r2 i]
    simp only [List.length_cons]
    by_cases h2 : off + k = i
    · subst h2
      rw [if_neg (by omega), if_pos (by omega)]
      have : off + k < cs.size := by omega
      simp [this]
    · by_cases h3 : off + (k + 1) ≤ i ∧ i < off + (k + 1) + new.length
      · rw [if_pos h3, if_pos (by omega)]
        have e : i - (off + k) = (i - (off + (k + 1))) + 1 := by omega
        rw [e]; simp
      · rw [if_neg h3, if_neg (by omega), Array.getElem?_setIfInBounds_ne h2]

theorem fillL_run {ρ : Rho} {cx : Cx} {F : Fr} {a : Act} (hF : FRel ρ F a) {pl : Nat → Option (Nat × Nat)} : ∀ (parts : List (Nat × Operand)) (cells out : List AV) (C : Array Value),
    fillL cx F pl parts cells = some out → Cells ρ cells C.toList →
    ∃ D : Array Value, Instr.fill pl C (parts.map fun p => (p.1, a.eval p.2)) = some D ∧ Cells ρ out D.toList := by
  intro parts
  induction parts with
  | nil => intro cells out C h hc; simp only [fillL, Option.some.injEq] at h; subst h; exact ⟨C, rfl, hc⟩
  | cons p parts ih =>
    intro cells out C h hc
    obtain ⟨i, x⟩ := p
    have h' : (match pl i, cellsOf (eval F x) with
      | some (off, size), some new => cond (Nat.beq (lenL new) size && Nat.ble (Nat.add off size) (lenL cells)) (fillL cx F pl parts (splice off cells new)) none
      | _, _ => none) = some out := h
    cases hp : pl i with
    | none => simp [hp] at h'
    | some os =>
      obtain ⟨off, size⟩ := os
      cases hn : cellsOf (eval F x) with
      | none => simp [hp, hn] at h'
      | some new =>
        simp only [hp, hn, nbeq, nble, lenL_eq, Nat.add_eq] at h'
        cases hcd : (decide (new.length = size) && decide (off + size ≤ cells.length)) with
        | false => simp [hcd] at h'
        | true =>
          simp only [hcd, cond_true] at h'
          simp only [Bool.and_eq_true, decide_eq_true_eq] at hcd
          obtain ⟨e1, e2⟩ := hcd
          have hnew := cellsOf_rel hn (hF.eval x)
          have hl := hnew.length
          have hcl := hc.length
          have hsz : (a.eval x).cells.size = size := by simpa using hl.symm.trans e1
          have hCs : C.size = cells.length := by simpa using hcl.symm
          obtain ⟨hst1, hst⟩ := fill_step off (a.eval x).cells.toList C 0 (by simp only [Array.length_toList]; omega)
          simp only [Nat.add_zero] at hst
          let D := ((a.eval x).cells.toList.zipIdx.foldl (fun cs (c, j) => cs.setIfInBounds (off + j) c) C)
          have hD : D.toList = splice off C.toList (a.eval x).cells.toList := by
            apply List.ext_getElem?
            intro i
            rw [getElem?_splice _ _ _ (by simp only [Array.length_toList]; omega)]
            simp only [Array.getElem?_toList]
            simpa only [Array.getElem?_toList] using hst i
          have hDc : Cells ρ (splice off cells new) D.toList := by
            rw [hD, splice_eq _ _ _ (by omega), splice_eq _ _ _ (by simp; omega), hl]
            exact ((hc.take off).append hnew).append (hc.drop _)
          obtain ⟨E, r1, r2⟩ := ih _ out D h' hDc
          refine ⟨E, ?_, r2⟩
          simp only [List.map_cons, Instr.fill, hp]
          rw [if_neg (by simp only [hsz]; simp; omega)]
          have e3 : (a.eval x).cells.zipIdx.foldl (fun cs (c, j) => cs.setIfInBounds (off + j) c) C = D := by
            show _ = ((a.eval x).cells.toList.zipIdx.foldl _ C)
            rw [← Array.foldl_toList]; simp
          rw [e3]; exact r1

theorem args_rel {ρ : Rho} {F : Fr} {a : Act} (hF : FRel ρ F a) (xs : Array Operand) : LRel ρ (args F xs) (xs.map a.eval).toList := by
  rw [args, mapL_eq, Array.toList_map]
  generalize xs.toList = l
  induction l with
  | nil => exact LRel.nil
  | cons x l ih => exact LRel.cons (hF.eval x) ih

theorem placesL_run {P : Program} {cx : Cx} (hcx : CxOk Λ P cx) : ∀ (fs : List Field) (ps : List (Nat × Nat)), placesL cx fs = some ps →
    ∀ w, (fs.mapM fun f => (do pure (f.offset, ← sizeOf f.type) : Sem (Nat × Nat))).run P w = .ok ps w := by
  intro fs
  induction fs with
  | nil => intro ps h w; simp only [placesL, Option.some.injEq] at h; subst h; rfl
  | cons f fs ih =>
    intro ps h w
    have h' : (match szOf cx f.type, placesL cx fs with
      | some n, some l => some ((f.offset, n) :: l)
      | _, _ => none) = some ps := h
    cases hs : szOf cx f.type with
    | none => simp [hs] at h'
    | some n =>
      cases hp : placesL cx fs with
      | none => simp [hs, hp] at h'
      | some l =>
        simp only [hs, hp, Option.some.injEq] at h'
        subst h'
        simp only [List.mapM_cons, Sem.run_bind, run_sz hcx hs, Result.andThen_ok, Sem.run_pure, ih l hp w]

theorem buildV_run {P : Program} {cx : Cx} (hcx : CxOk Λ P cx) {ρ : Rho} {F : Fr} {a : Act} (hF : FRel ρ F a) {t : TypeId} {parts : Array (Nat × Operand)} {v : AV}
    (h : buildV cx F t parts.toList = some v) (w : World) : ∃ z, (Instr.build t (parts.map fun (i, x) => (i, a.eval x))).run P w = .ok z w ∧ VRel ρ v z := by
  unfold buildV at h
  cases hz : zeroOf cx t with
  | none => simp [hz] at h
  | some z =>
    simp only [hz] at h
    obtain ⟨zv, hzr, hzv⟩ := zero_run hcx hz
    cases hc : cellsOf z with
    | none => simp [hc] at h
    | some zero =>
      have hzc := cellsOf_rel hc (hzv ρ)
      cases hu : und cx t with
      | none => simp [hc, hu] at h
      | some d =>
        rw [hc, hu] at h
        simp only [Instr.build, Sem.run_bind, hzr, Result.andThen_ok, run_und hcx hu, Array.toList_map]
        cases d with
        | struct fs =>
          simp only [] at h
          cases hp : placesL cx fs.toList with
          | none => simp [hp] at h
          | some ps =>
            simp only [hp] at h
            cases hf : fillL cx F (fun i => nth i ps) parts.toList zero with
            | none => simp [hf] at h
            | some cells =>
              simp only [hf, Option.some.injEq] at h
              subst h
              obtain ⟨D, r1, r2⟩ := fillL_run hF _ _ _ zv.cells hf hzc
              refine ⟨.agg D, ?_, by simp only [VRel]; exact ⟨D, rfl, r2.1, r2.2⟩⟩
              have hpl := placesL_run hcx fs.toList ps hp w
              have e : (fun i => nth i ps) = (fun i => (ps.toArray)[i]?) := by funext i; rw [nth_eq]; simp
              rw [e] at r1
              simp only [Array.mapM_eq_mapM_toList, Sem.run_bind, Sem.run_map, hpl, Result.andThen_ok, r1]
              rfl
        | array n e =>
          simp only [] at h
          cases hs : szOf cx e with
          | none => simp [hs] at h
          | some sz =>
            simp only [hs, Nat.mul_eq] at h
            cases hf : fillL cx F (fun i => some (i * sz, sz)) parts.toList zero with
            | none => simp [hf] at h
            | some cells =>
              simp only [hf, Option.some.injEq] at h
              subst h
              obtain ⟨D, r1, r2⟩ := fillL_run hF _ _ _ zv.cells hf hzc
              refine ⟨.agg D, ?_, by simp only [VRel]; exact ⟨D, rfl, r2.1, r2.2⟩⟩
              simp only [Sem.run_bind, run_sz hcx hs, Result.andThen_ok, r1]
              rfl
        | _ => simp at h
end Go.Am
