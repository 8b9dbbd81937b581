/-
  The abstract machine against the model: strings, comparison, parts.
  The abstract machine against the model: the binary and the unary operators.
-/
import Derived.Test.YtpgmahedcpepkaaGreatDoorAmRun
import Derived.Laws.Strings2
import Derived.ChangeKeysEq
namespace Go.Am
open Go
variable {Λ : LB}

/-! ### Strings -/
theorem str_inj {a b : ByteArray} (h : a.data.toList.map UInt8.toNat = b.data.toList.map UInt8.toNat) : a.data.toList = b.data.toList := by
  have inj : ∀ (l m : List UInt8), l.map UInt8.toNat = m.map UInt8.toNat → l = m := by
    intro l; induction l with
    | nil => intro m hm; cases m <;> simp_all
    | cons x l ih =>
      intro m hm
      cases m with
      | nil => simp at hm
      | cons y m =>
        simp only [List.map_cons, List.cons.injEq] at hm
        rw [ih m hm.2, UInt8.toNat_inj.1 hm.1]
  exact inj _ _ h
theorem eq_str {a b : ByteArray} {s t : List Nat} (ha : a.data.toList.map UInt8.toNat = s) (hb : b.data.toList.map UInt8.toNat = t) :
    (a.toList == b.toList) = eqS s t := by
  rw [ByteArray.toList_eq, ByteArray.toList_eq, eqS_eq, ← ha, ← hb]
  by_cases h : a.data.toList = b.data.toList
  · rw [h]; simp
  · have h' : ¬ a.data.toList.map UInt8.toNat = b.data.toList.map UInt8.toNat := fun e => h (str_inj e)
    rw [decide_eq_false h']
    simpa using h
theorem ltS_bytes : ∀ (l m : List UInt8), Op.bytesLess l m = ltS (l.map UInt8.toNat) (m.map UInt8.toNat) := by
  intro l; induction l with
  | nil => intro m; cases m <;> rfl
  | cons x l ih =>
    intro m
    cases m with
    | nil => rfl
    | cons y m =>
      show (x < y || (x == y && Op.bytesLess l m)) = cond (Nat.blt x.toNat y.toNat) true (cond (Nat.beq x.toNat y.toNat) (ltS (l.map UInt8.toNat) (m.map UInt8.toNat)) false)
      rw [← ih m, nblt, nbeq]
      have e1 : decide (x < y) = decide (x.toNat < y.toNat) := by simp [UInt8.lt_iff_toNat_lt]
      have e2 : (x == y) = decide (x.toNat = y.toNat) := by
        by_cases h : x = y
        · subst h; simp
        · have : ¬ x.toNat = y.toNat := fun e => h (UInt8.toNat_inj.1 e)
          simp [h, this]
      rw [e1, e2]
      cases decide (x.toNat < y.toNat) <;> cases decide (x.toNat = y.toNat) <;> rfl
theorem lt_str {a b : ByteArray} {s t : List Nat} (ha : a.data.toList.map UInt8.toNat = s) (hb : b.data.toList.map UInt8.toNat = t) :
    Op.bytesLess a.toList b.toList = ltS s t := by
  rw [ByteArray.toList_eq, ByteArray.toList_eq, ltS_bytes, ha, hb]
/-- < and ==, or the other way round. -/
theorem ltS_total : ∀ (s t : List Nat), (ltS s t || eqS s t) = !ltS t s := by
  intro s; induction s with
  | nil => intro t; cases t <;> rfl
  | cons x s ih =>
    intro t
    cases t with
    | nil => rfl
    | cons y t =>
      show (cond (Nat.blt x y) true (cond (Nat.beq x y) (ltS s t) false) || cond (Nat.beq x y) (eqS s t) false) = !cond (Nat.blt y x) true (cond (Nat.beq y x) (ltS t s) false)
      rw [nblt, nblt, nbeq, nbeq]
      rcases Nat.lt_trichotomy x y with h | h | h
      · rw [decide_eq_true h, decide_eq_false (by omega : ¬ y < x), decide_eq_false (by omega : ¬ y = x)]; rfl
      · subst h; rw [decide_eq_false (by omega : ¬ x < x)]; simpa using ih t
      · rw [decide_eq_false (by omega : ¬ x < y), decide_eq_true h, decide_eq_false (by omega : ¬ x = y)]; rfl

theorem size_str {a : ByteArray} {s : List Nat} (ha : a.data.toList.map UInt8.toNat = s) : a.size = s.length := by
  rw [← ha, List.length_map]; rfl

theorem not_lt_of_le' {a b : Nat} (h : a.add b ≤ 4611686018427387904) : ¬ (((a + b : Nat) : Int) > 9223372036854775807) := by
  have : a + b ≤ 4611686018427387904 := h
  omega
theorem binS_run {P : Program} {op : BinOp} {a b : ByteArray} {s t : List Nat} {v : AV} (h : binS op s t = some v)
    (ha : a.data.toList.map UInt8.toNat = s) (hb : b.data.toList.map UInt8.toNat = t) (w : World) :
    ∃ x, (Op.stringOp op a b).run P w = .ok x w ∧ ∀ ρ, VRel ρ v x := by
  cases op
  case add =>
    have h : cond (Nat.ble (Nat.add (lenL s) (lenL t)) 4611686018427387904) (some (AV.str (appL s t))) none = some v := h
    rw [nble, lenL_eq, lenL_eq, appL_eq] at h
    by_cases hc : s.length.add t.length ≤ 4611686018427387904
    · rw [decide_eq_true hc] at h; cases h
      refine ⟨.string (a ++ b), ?_, fun ρ => ?_⟩
      · have hm : ¬ (((a.size + b.size : Nat) : Int) > IntKind.i64.max) := by
          have h0 : IntKind.i64.max = 9223372036854775807 := rfl
          rw [h0, size_str ha, size_str hb]; exact not_lt_of_le' hc
        show (if ((a.size + b.size : Nat) : Int) > IntKind.i64.max then unsupported _ else pure (.string (a ++ b)) : Sem Value).run P w = _
        rw [if_neg hm]; rfl
      · simp only [VRel]
        exact ⟨a ++ b, rfl, by rw [← ha, ← hb]; simp [ByteArray.data_append]⟩
    · rw [decide_eq_false hc] at h; cases h
  case eql => cases h; exact ⟨_, rfl, fun ρ => by simp only [VRel, eq_str ha hb]⟩
  case neq => cases h; exact ⟨_, rfl, fun ρ => by simp only [VRel, eq_str ha hb]⟩
  case lss => cases h; exact ⟨_, rfl, fun ρ => by simp only [VRel, lt_str ha hb]⟩
  case leq => cases h; exact ⟨_, rfl, fun ρ => by simp only [VRel, lt_str ha hb, eq_str ha hb, ltS_total]⟩
  case gtr => cases h; exact ⟨_, rfl, fun ρ => by simp only [VRel, lt_str ha hb, eq_str ha hb, ltS_total, Bool.not_not]⟩
  case geq => cases h; exact ⟨_, rfl, fun ρ => by simp only [VRel, lt_str ha hb]⟩
  all_goals cases h

/-! ### Parts -/
theorem part_run {P : Program} {cx : Cx} (hcx : CxOk Λ P cx) {ρ : Rho} {t : TypeId} {cs : List AV} {a : Array Value} {off : Nat} {v : AV}
    (h : partOf cx t cs off = some v) (hr : LRel ρ cs a.toList) (h1 : ∀ x, x ∈ a.toList → x.oneCell' = true) (w : World) :
    ∃ x, (part t a off).run P w = .ok x w ∧ VRel ρ v x := by
  unfold partOf at h
  cases ha : aggOf cx t with
  | none => simp [ha] at h
  | some b =>
    cases b with
    | true =>
      simp only [ha] at h
      cases hs : szOf cx t with
      | none => simp [hs] at h
      | some n =>
        simp only [hs, Option.some.injEq, takeN_eq, dropN_eq] at h
        subst h
        refine ⟨.agg (a.extract off (off + n)), by simp [part, run_agg hcx ha, run_sz hcx hs], ?_⟩
        simp only [VRel]
        have e : (a.extract off (off + n)).toList = (a.toList.drop off).take n := by
          rw [Array.toList_extract, List.extract_eq_take_drop]; congr 1; omega
        refine ⟨_, rfl, by rw [e]; exact (hr.drop off).take n, fun x hx => ?_⟩
        rw [e] at hx
        exact h1 x (List.mem_of_mem_drop (List.mem_of_mem_take hx))
    | false =>
      simp only [ha, nth_eq] at h
      obtain ⟨x, hx, hv⟩ := hr.get h
      refine ⟨x, ?_, hv⟩
      have hx' : a[off]? = some x := by simpa using hx
      simp [part, run_agg hcx ha, hx']

/-! ### Comparison -/
theorem eqFields_run {P : Program} {cx : Cx} (hcx : CxOk Λ P cx) {ρ : Rho} {d : Nat} {eq : TypeId → AV → AV → Option Bool}
    (heq : ∀ t x y r x' y', eq t x y = some r → VRel ρ x x' → VRel ρ y y' → ∀ w, (Op.equalIn d t x' y').run P w = .ok r w)
    {xs ys : List AV} {a b : Array Value} (hx : LRel ρ xs a.toList) (hx1 : ∀ x, x ∈ a.toList → x.oneCell' = true)
    (hy : LRel ρ ys b.toList) (hy1 : ∀ x, x ∈ b.toList → x.oneCell' = true) :
    ∀ (fs : List Field) (r : Bool), (∀ f, f ∈ fs → f.name ≠ "_") → eqFields eq cx xs ys fs = some r → ∀ w, (Op.eqFields d a b fs).run P w = .ok r w := by
  intro fs
  induction fs with
  | nil => intro r _ h w; simp only [eqFields, Option.some.injEq] at h; subst h; rfl
  | cons f fs ih =>
    intro r hn h w
    have h' : (match partOf cx f.type xs f.offset, partOf cx f.type ys f.offset with
      | some a, some b => match eq f.type a b with
        | some true => eqFields eq cx xs ys fs
        | r => r
      | _, _ => none) = some r := h
    cases hp : partOf cx f.type xs f.offset with
    | none => simp [hp] at h'
    | some u =>
      cases hq : partOf cx f.type ys f.offset with
      | none => simp [hp, hq] at h'
      | some v =>
        simp only [hp, hq] at h'
        obtain ⟨u', r1, v1⟩ := part_run hcx hp hx hx1 w
        obtain ⟨v', r2, v2⟩ := part_run hcx hq hy hy1 w
        simp only [Op.eqFields, if_pos (hn f (by simp)), Sem.run_bind, r1, r2, Result.andThen_ok]
        cases he : eq f.type u v with
        | none => simp [he] at h'
        | some b =>
          rw [heq _ _ _ _ _ _ he v1 v2 w]
          cases b with
          | true => simp only [he] at h'; simpa using ih r (fun g hg => hn g (by simp [hg])) h' w
          | false => simp only [he, Option.some.injEq] at h'; subst h'; simp

theorem eqElems_run {P : Program} {cx : Cx} (hcx : CxOk Λ P cx) {ρ : Rho} {d e z : Nat} {eq : AV → AV → Option Bool}
    (heq : ∀ x y r x' y', eq x y = some r → VRel ρ x x' → VRel ρ y y' → ∀ w, (Op.equalIn d e x' y').run P w = .ok r w)
    {xs ys : List AV} {a b : Array Value} (hx : LRel ρ xs a.toList) (hx1 : ∀ x, x ∈ a.toList → x.oneCell' = true)
    (hy : LRel ρ ys b.toList) (hy1 : ∀ x, x ∈ b.toList → x.oneCell' = true) :
    ∀ (n i : Nat) (r : Bool), eqElems eq cx e z xs ys n i = some r → ∀ w, (Op.eqItems d e z a b (List.range' i n)).run P w = .ok r w := by
  intro n
  induction n with
  | zero => intro i r h w; cases h; rfl
  | succ n ih =>
    intro i r h w
    have h' : (match partOf cx e xs (i * z), partOf cx e ys (i * z) with
      | some a, some b => match eq a b with
        | some true => eqElems eq cx e z xs ys n (i + 1)
        | r => r
      | _, _ => none) = some r := h
    cases hp : partOf cx e xs (i * z) with
    | none => simp [hp] at h'
    | some u =>
      cases hq : partOf cx e ys (i * z) with
      | none => simp [hp, hq] at h'
      | some v =>
        simp only [hp, hq] at h'
        obtain ⟨u', r1, v1⟩ := part_run hcx hp hx hx1 w
        obtain ⟨v', r2, v2⟩ := part_run hcx hq hy hy1 w
        rw [List.range'_succ]
        simp only [Op.eqItems, Sem.run_bind, r1, r2, Result.andThen_ok]
        cases he : eq u v with
        | none => simp [he] at h'
        | some b =>
          rw [heq _ _ _ _ _ he v1 v2 w]
          cases b with
          | true => simp only [he] at h'; simpa using ih (i + 1) r h' w
          | false => simp only [he, Option.some.injEq] at h'; subst h'; simp

theorem eqT_run {P : Program} {cx : Cx} (hcx : CxOk Λ P cx) {ρ : Rho} : ∀ (n d : Nat) (t : TypeId) (x y : AV) (r : Bool) (x' y' : Value), n ≤ d → eqT cx n t x y = some r → VRel ρ x x' → VRel ρ y y' →
    ∀ w, (Op.equalIn d t x' y').run P w = .ok r w := by
  intro n
  induction n with
  | zero => intro d t x y r x' y' _ h; cases h
  | succ n ih =>
    intro d t x y r x' y' hd h hx hy w
    obtain ⟨d, rfl⟩ : ∃ k, d = k + 1 := ⟨d - 1, by omega⟩
    have hst : eqT cx (n + 1) t x y = (match und cx t with
      | none => none
      | some d => eqStep cx (eqT cx n) t d x y) := rfl
    rw [hst] at h
    cases hu : und cx t with
    | none => rw [hu] at h; cases h
    | some td =>
      have hru := run_und hcx hu w
      rw [hu] at h
      simp only [] at h
      unfold eqStep at h
      split at h <;> (try simp only [VRel] at hx hy)
      · -- int
        subst hx hy
        rw [kindEq_eq, eqI_eq] at h
        rename_i j a k b
        by_cases hk : j = k
        · rw [decide_eq_true hk] at h; simp only [cond_true, Option.some.injEq] at h; subst hk h
          simp only [Op.equalIn, Sem.run_bind, hru, Result.andThen_ok]
          simp
          rfl
        · rw [decide_eq_false hk] at h; cases h
      · -- a symbol
        obtain ⟨pl, p1, rfl⟩ := hx
        obtain ⟨pl', p2, rfl⟩ := hy
        rename_i i j
        rw [nbeq] at h
        by_cases hk : i = j
        · subst hk
          rw [p1] at p2; cases p2
          rw [decide_eq_true rfl] at h; simp only [cond_true, Option.some.injEq] at h; subst h
          simp only [Op.equalIn, OK.val, Sem.run_bind, hru, Result.andThen_ok]
          simp
        · rw [decide_eq_false hk] at h; cases h
      · subst hx hy; cases h; simp only [Op.equalIn, Sem.run_bind, hru, Result.andThen_ok]; rfl
      · obtain ⟨b1, rfl, e1⟩ := hx
        obtain ⟨b2, rfl, e2⟩ := hy
        cases h
        simp only [Op.equalIn, Sem.run_bind, hru, Result.andThen_ok, Sem.run_pure]
        rw [beq_toListBytes, eq_str e1 e2]
      · subst hx hy; cases h; simp only [Op.equalIn, Sem.run_bind, hru, Result.andThen_ok]; rfl
      · obtain ⟨pl, _, _, rfl⟩ := hy; subst hx; cases h; simp only [Op.equalIn, Sem.run_bind, hru, Result.andThen_ok]; rfl
      · obtain ⟨pl, _, _, rfl⟩ := hx; subst hy; cases h; simp only [Op.equalIn, Sem.run_bind, hru, Result.andThen_ok]; rfl
      · rename_i e i g o l1 j g' o' l2
        obtain ⟨pl, p1, _, rfl⟩ := hx
        obtain ⟨pl', p2, _, rfl⟩ := hy
        cases hs : szOf cx e with
        | none => simp [hs] at h
        | some sz =>
          simp only [hs, nbeq] at h
          cases hc : (decide (i = j) && decide (g = g') && decide (o = o')) with
          | false => simp [hc] at h
          | true =>
            simp only [hc, cond_true, Option.some.injEq] at h
            simp only [Bool.and_eq_true, decide_eq_true_eq] at hc
            obtain ⟨⟨rfl, rfl⟩, rfl⟩ := hc
            rw [p1] at p2; cases p2; subst h
            simp only [Op.equalIn, Sem.run_bind, hru, Result.andThen_ok, run_sz hcx hs, sameAddr]
            simp
      · subst hx hy; cases h; simp only [Op.equalIn, Sem.run_bind, hru, Result.andThen_ok]; rfl
      · subst hx
        cases h
        obtain ⟨pl, c, _, _, _, _, _, hh⟩ := hy
        rcases hh with ⟨rfl, _⟩ | ⟨_, _, _, a, rfl⟩ <;> (simp only [Op.equalIn, Sem.run_bind, hru, Result.andThen_ok]; rfl)
      · subst hy
        cases h
        obtain ⟨pl, c, _, _, _, _, _, hh⟩ := hx
        rcases hh with ⟨rfl, _⟩ | ⟨_, _, _, a, rfl⟩ <;> (simp only [Op.equalIn, Sem.run_bind, hru, Result.andThen_ok]; rfl)
      · subst hx hy; cases h; simp only [Op.equalIn, Sem.run_bind, hru, Result.andThen_ok]; rfl
      · obtain ⟨pl, _, rfl⟩ := hy; subst hx; cases h; simp only [Op.equalIn, Sem.run_bind, hru, Result.andThen_ok]; rfl
      · obtain ⟨pl, _, rfl⟩ := hx; subst hy; cases h; simp only [Op.equalIn, Sem.run_bind, hru, Result.andThen_ok]; rfl
      · subst hx hy; cases h; simp only [Op.equalIn, Sem.run_bind, hru, Result.andThen_ok]; rfl
      · obtain ⟨_, _, rfl, _⟩ := hy; subst hx; cases h; simp only [Op.equalIn, Sem.run_bind, hru, Result.andThen_ok]; rfl
      · obtain ⟨_, _, rfl, _⟩ := hx; subst hy; cases h; simp only [Op.equalIn, Sem.run_bind, hru, Result.andThen_ok]; rfl
      · subst hx hy; cases h; simp only [Op.equalIn, Sem.run_bind, hru, Result.andThen_ok]; rfl
      · obtain ⟨_, rfl, _⟩ := hy; subst hx; cases h; simp only [Op.equalIn, Sem.run_bind, hru, Result.andThen_ok]; rfl
      · obtain ⟨_, rfl, _⟩ := hx; subst hy; cases h; simp only [Op.equalIn, Sem.run_bind, hru, Result.andThen_ok]; rfl
      · rename_i ms tx a ty b
        obtain ⟨a', rfl, ha⟩ := hx
        obtain ⟨b', rfl, hb⟩ := hy
        rw [nbeq] at h
        by_cases ht : tx = ty
        · rw [decide_eq_true ht] at h
          subst ht
          simp only [cond_true] at h
          cases hi : cx.tys.get tx with
          | none => simp [hi] at h
          | some i =>
            simp only [hi] at h
            cases hcm : i.comparable with
            | false => simp [hcm] at h
            | true =>
              simp only [hcm, cond_true] at h
              simp only [Op.equalIn, Sem.run_bind, hru, Result.andThen_ok, ne_eq, not_true_eq_false, if_false]
              rw [run_info hcx hi]
              simp only [Result.andThen_ok, hcm, Bool.not_true, Bool.false_eq_true, if_false]
              exact ih d _ _ _ _ _ _ (by omega) h ha hb w
        · rw [decide_eq_false ht] at h
          cases h
          simp only [Op.equalIn, Sem.run_bind, hru, Result.andThen_ok]
          simp [ht]
      · rename_i fs xs ys
        obtain ⟨a, rfl, ha, ha1⟩ := hx
        obtain ⟨b, rfl, hb, hb1⟩ := hy
        cases he : cx.eqs.get t with
        | none => simp [he] at h
        | some u =>
          simp only [he] at h
          obtain ⟨hst, hgd, hnm⟩ := hcx.stood t (by rw [he]; simp)
          have hfs : P.fieldsOf t = fs := by simp [Program.fieldsOf, und_ok hcx hu]
          rw [run_equalIn_struct w d t a b (by rw [hfs]; exact und_ok hcx hu) hst]
          rw [hfs] at hnm ⊢
          exact eqFields_run hcx (fun t x y r x' y' hh h1 h2 w => ih d t x y r x' y' (by omega) hh h1 h2 w) ha ha1 hb hb1 fs.toList r hnm h w
      · rename_i m e xs ys
        obtain ⟨a, rfl, ha, ha1⟩ := hx
        obtain ⟨b, rfl, hb, hb1⟩ := hy
        cases he : cx.eqs.get t with
        | none => simp [he] at h
        | some u =>
          simp only [he] at h
          cases hi : cx.tys.get e with
          | none => simp [szOf, hi] at h
          | some i =>
            have hz : szOf cx e = some i.size := by unfold szOf; rw [hi]
            have hc : P.cellsOf e = i.size := by unfold Program.cellsOf; rw [hcx.tys e i hi]; rfl
            simp only [hz] at h
            rw [run_equalIn_array w d a b (und_ok hcx hu) (hcx.tys e i hi), hc, List.range_eq_range']
            exact eqElems_run hcx (fun x y r x' y' hh h1 h2 w => ih d e x y r x' y' (by omega) hh h1 h2 w) ha ha1 hb hb1 m 0 r h w
      · cases h
end Go.Am

namespace Go.Am
open Go
variable {Λ : LB}

def odd' : Value → Bool
  | .int .. | .float .. | .complex .. | .string _ | .tuple _ | .chan _ => false
  | _ => true
theorem oddA_odd {ρ : Rho} {x : AV} {x' : Value} (h : oddA x = true) (hx : VRel ρ x x') : odd' x' = true := by
  cases x <;> simp only [oddA, Bool.false_eq_true] at h <;> simp only [VRel] at hx
  · subst hx; rfl
  · subst hx; rfl
  · obtain ⟨_, _, _, rfl⟩ := hx; rfl
  · subst hx; rfl
  · obtain ⟨_, _, _, _, _, _, _, hh⟩ := hx
    rcases hh with ⟨rfl, _⟩ | ⟨_, _, _, _, rfl⟩ <;> rfl
  · subst hx; rfl
  · obtain ⟨_, _, rfl⟩ := hx; rfl
  · obtain ⟨_, _, rfl, _⟩ := hx; rfl
  · subst hx; rfl
  · subst hx; rfl
  · obtain ⟨_, rfl, _⟩ := hx; rfl
  · obtain ⟨_, rfl, _⟩ := hx; rfl
theorem binOp_eql_odd {t : TypeId} {x y : Value} (h : odd' x = true) : binOp .eql t x y = (do pure (.bool (← Op.equal t x y))) := by
  cases x <;> simp only [odd', Bool.false_eq_true] at h <;> cases y <;> rfl
theorem binOp_neq_odd {t : TypeId} {x y : Value} (h : odd' x = true) : binOp .neq t x y = (do pure (.bool (!(← Op.equal t x y)))) := by
  cases x <;> simp only [odd', Bool.false_eq_true] at h <;> cases y <;> rfl

def isC : Operand → Bool | .const _ => true | _ => false

theorem eqV_run {P : Program} {cx : Cx} (hcx : CxOk Λ P cx) {ρ : Rho} {t : TypeId} {cst : Bool} {x y : AV} {r : Bool} {x' y' : Value} {xo yo : Operand}
    (h : eqV cx t cst x y = some r) (hc : cst = (isC xo || isC yo)) (hx : VRel ρ x x') (hy : VRel ρ y y') (w : World) :
    odd' x' = true ∧ (Op.equal t x' y').run P w = .ok r w ∧ ∀ op, (eqGuard op t xo yo x' y').run P w = .ok () w := by
  have key : ∀ x y, eqT cx 6 t x y = some r → oddA x = true → VRel ρ x x' → VRel ρ y y' → odd' x' = true ∧ (Op.equal t x' y').run P w = .ok r w := fun x y he ho hx hy =>
    ⟨oddA_odd ho hx, eqT_run hcx 6 Op.maxDepth t x y r x' y' (by decide) he hx hy w⟩
  unfold eqV at h
  split at h
  · cases hcst : cst with
    | false => simp [hcst] at h
    | true =>
      rw [hcst] at h
      obtain ⟨k1, k2⟩ := key _ _ h rfl hx hy
      simp only [VRel] at hx hy
      subst hx hy
      refine ⟨k1, k2, fun op => ?_⟩
      rw [hcst] at hc
      unfold eqGuard
      cases op <;> first
        | rfl
        | (cases xo <;> cases yo <;> first | rfl | (simp [isC] at hc))
  · rename_i hne
    cases ho : oddA x with
    | false => simp [ho] at h
    | true =>
      rw [ho] at h
      simp only [cond_true] at h
      obtain ⟨k1, k2⟩ := key _ _ h ho hx hy
      refine ⟨k1, k2, fun op => ?_⟩
      unfold eqGuard
      have hg : ∀ a b, x' = .agg a → y' = .agg b → P.eqGuardType P.depth t = false := by
        intro a b ha hb
        subst ha
        cases x <;> simp only [oddA, Bool.false_eq_true] at ho <;> simp only [VRel] at hx <;> (try (cases hx; done)) <;> (try (obtain ⟨_, _, _, hh⟩ := hx; cases hh; done)) <;>
          (try (obtain ⟨_, _, hh⟩ := hx; cases hh; done)) <;> (try (obtain ⟨_, _, hh, _⟩ := hx; cases hh; done)) <;> (try (obtain ⟨_, hh, _⟩ := hx; cases hh; done))
        · obtain ⟨_, _, _, _, _, _, _, hh⟩ := hx
          rcases hh with ⟨hh, _⟩ | ⟨_, _, _, _, hh⟩ <;> cases hh
        · rename_i cs
          have hst : eqT cx 6 t (.agg cs) y = (match und cx t with | none => none | some d => eqStep cx (eqT cx 5) t d (.agg cs) y) := rfl
          rw [hst] at h
          cases hu : und cx t with
          | none => rw [hu] at h; cases h
          | some d =>
            rw [hu] at h
            simp only [] at h
            unfold eqStep at h
            split at h <;> (try (cases h; done)) <;> (try (rename_i heq _; cases heq; done))
            all_goals (try (rename_i heq; cases heq; done))
            all_goals
              cases he : cx.eqs.get t with
              | none => simp [he] at h
              | some u => exact (hcx.stood t (by rw [he]; simp)).2.1
      cases hop : (!(op matches BinOp.eql | BinOp.neq)) with
      | true => rfl
      | false =>
        simp only [Bool.false_eq_true, if_false]
        split
        · rename_i e1 e2
          exact absurd hx (by
            intro hx
            cases x <;> simp only [oddA, Bool.false_eq_true] at ho <;> simp only [VRel] at hx <;> (try (cases hx; done)) <;> (try (obtain ⟨_, _, _, hh⟩ := hx; cases hh; done)) <;>
              (try (obtain ⟨_, _, hh⟩ := hx; cases hh; done)) <;> (try (obtain ⟨_, _, hh, _⟩ := hx; cases hh; done)) <;> (try (obtain ⟨_, hh, _⟩ := hx; cases hh; done))
            · obtain ⟨_, _, _, _, _, _, _, hh⟩ := hx
              rcases hh with ⟨hh, _⟩ | ⟨_, _, _, _, hh⟩ <;> cases hh
            · have hst : eqT cx 6 t .niface y = (match und cx t with | none => none | some d => eqStep cx (eqT cx 5) t d .niface y) := rfl
              rw [hst] at h
              cases hu : und cx t with
              | none => rw [hu] at h; cases h
              | some d =>
                rw [hu] at h
                simp only [] at h
                unfold eqStep at h
                split at h <;> (try (cases h; done)) <;> (try (rename_i heq _; cases heq; done)) <;> (try (rename_i heq; cases heq; done))
                · exact hne rfl rfl
                · simp only [VRel] at hy; obtain ⟨_, hh, _⟩ := hy; cases hh)
        · rename_i a b
          have := hg a b rfl rfl
          simp [this]
        · rfl

theorem gtrV_run {P : Program} {ρ : Rho} {t : TypeId} {x y v : AV} {x' y' : Value} {xo yo : Operand} (h : gtrV x y = some v) (hx : VRel ρ x x') (hy : VRel ρ y y') (w : World) :
    ∃ z, ((do eqGuard .gtr t xo yo x' y'; binOp .gtr t x' y' : Sem Value)).run P w = .ok z w ∧ VRel ρ v z := by
  unfold gtrV at h
  split at h
  · rename_i b n
    simp only [VRel] at hx hy
    obtain ⟨pl, _, rfl⟩ := hx
    subst hy
    rw [nbeq] at h
    by_cases hk : n = 256
    · subst hk
      rw [decide_eq_true rfl] at h
      cases h
      have hg : (eqGuard .gtr t xo yo (OK.val .small pl.b) (.int .i64 (.ofNat 256))).run P w = .ok () w := rfl
      refine ⟨.bool false, ?_, by simp [VRel]⟩
      simp only [Sem.run_bind, hg, Result.andThen_ok]
      have hb : pl.b % 257 < 257 := Nat.mod_lt _ (by decide)
      have h2 : (binOp .gtr t (OK.val .small pl.b) (.int .i64 (.ofNat 256))).run P w = .ok (.bool (decide ((Int.ofNat 256) < ((pl.b % 257 : Nat) : Int)))) w := rfl
      rw [h2, decide_eq_false]
      show ¬ ((256 : Int) < _)
      omega
    · rw [decide_eq_false hk] at h; cases h
  · cases h
theorem binV_run {P : Program} {cx : Cx} (hcx : CxOk Λ P cx) {ρ : Rho} {op : BinOp} {t : TypeId} {cst : Bool} {x y v : AV} {x' y' : Value} {xo yo : Operand}
    (h : binV cx op t cst x y = some v) (hc : cst = (isC xo || isC yo)) (hx : VRel ρ x x') (hy : VRel ρ y y') (w : World) :
    ∃ z, ((do eqGuard op t xo yo x' y'; binOp op t x' y' : Sem Value)).run P w = .ok z w ∧ VRel ρ v z := by
  unfold binV at h
  split at h
  · rename_i j a k b
    simp only [VRel] at hx hy
    subst hx hy
    have hg : (eqGuard op t xo yo (.int j a) (.int k b)).run P w = .ok () w := by unfold eqGuard; cases op <;> rfl
    simp only [Sem.run_bind, hg, Result.andThen_ok]
    split at h
    · cases b with
      | negSucc n => cases h
      | ofNat n =>
      cases h
      have hn : ¬ ((Int.ofNat n) < 0) := by simp
      refine ⟨.int j (j.wrap (a * 2 ^ (min n j.bits))), ?_, ?_⟩
      · simp only [binOp, Op.shift, hn, if_false]; simp
      · simp only [mkI_eq, VRel]; congr 2
    · cases b with
      | negSucc n => cases h
      | ofNat n =>
      cases h
      have hn : ¬ ((Int.ofNat n) < 0) := by simp
      refine ⟨.int j (a.fdiv (2 ^ (min n j.bits))), ?_, ?_⟩
      · simp only [binOp, Op.shift, hn, if_false]; simp
      · simp only [forceI_eq, VRel]; congr 2
    · rename_i hs hs'
      rw [kindEq_eq] at h
      by_cases hk : j = k
      · rw [decide_eq_true hk] at h
        subst hk
        obtain ⟨z, r1, r2⟩ := binI_run (P := P) h hs hs' w
        refine ⟨z, ?_, r2 ρ⟩
        have : binOp op t (.int j a) (.int j b) = binOp op 0 (.int j a) (.int j b) := by cases op <;> rfl
        rw [this]; exact r1
      · rw [decide_eq_false hk] at h; cases h
  · rename_i a b
    simp only [VRel] at hx hy
    obtain ⟨a', rfl, ha⟩ := hx
    obtain ⟨b', rfl, hb⟩ := hy
    have hg : (eqGuard op t xo yo (.string a') (.string b')).run P w = .ok () w := by unfold eqGuard; cases op <;> rfl
    simp only [Sem.run_bind, hg, Result.andThen_ok]
    obtain ⟨z, r1, r2⟩ := binS_run (P := P) h ha hb w
    refine ⟨z, ?_, r2 ρ⟩
    have : binOp op t (.string a') (.string b') = Op.stringOp op a' b' := by
      cases op <;> first | rfl | (simp [binS] at h)
    rw [this]; exact r1
  · split at h
    · cases he : eqV cx t cst x y with
      | none => simp [he] at h
      | some r =>
        simp only [he, Option.some.injEq] at h
        subst h
        obtain ⟨k1, k2, k3⟩ := eqV_run hcx he hc hx hy w
        exact ⟨.bool r, by simp only [Sem.run_bind, k3, Result.andThen_ok, binOp_eql_odd k1, k2, Sem.run_pure], by simp [VRel]⟩
    · cases he : eqV cx t cst x y with
      | none => simp [he] at h
      | some r =>
        simp only [he, Option.some.injEq] at h
        subst h
        obtain ⟨k1, k2, k3⟩ := eqV_run hcx he hc hx hy w
        exact ⟨.bool (!r), by simp only [Sem.run_bind, k3, Result.andThen_ok, binOp_neq_odd k1, k2, Sem.run_pure], by simp [VRel]⟩
    · exact gtrV_run h hx hy w
    · cases h

theorem unV_run {P : Program} {ρ : Rho} {op : UnOp} {x v : AV} {x' : Value} (h : unV op x = some v) (hx : VRel ρ x x') (w : World) :
    ∃ z, (Op.unary op x').run P w = .ok z w ∧ VRel ρ v z := by
  unfold unV at h
  split at h <;> cases h <;> simp only [VRel] at hx <;> subst hx
  · exact ⟨_, rfl, by simp [VRel]⟩
  · exact ⟨_, rfl, by simp only [mkI_eq, VRel]; rfl⟩
  · rename_i k n
    refine ⟨_, (bits_run (op := .xor) (by simp) w), ?_⟩
    rw [bitsI_eq (by simp)]
    simp only [VRel]
    congr 2
    cases k <;> rfl
end Go.Am
