/-
  The abstract machine: texts and bytes.
-/
import Derived.Test.YtpglcebeldgeeaaDoorAmWide
namespace Go.Am
open Go
set_option linter.unusedVariables false
set_option linter.unusedSimpArgs false

theorem append_gwt {cx : Cx} {S : AS} {t u : Nat} {ts : List TypeId} {p : Nat × Nat × Nat} {v x : AV} {cs ds : List AV} {d : TypeDesc} (h : slT cx t = some p) (hu : und cx u = some d) (hd : notInt d = true)
    (ho : Gw S v p.2.1 p.1 cs) {nx : Nat} (ht : taken S p.2.1 x = some (nx, ds)) (hlen : ds.length = nx * p.2.1) (hf : fits (sLen v + nx) p.2.2 = true) :
    ∃ v' T, builtinV cx S .append (t :: u :: ts) [v, x] = .val v' T ∧ Gw T v' p.2.1 p.1 (cs ++ ds) ∧ (∀ id, id < S.next → id + 1 ≠ bnd v → T.h.get id = S.h.get id) ∧ S.next ≤ T.next ∧ sLen v' = sLen v + nx ∧ (isNil v' = (isNil v && decide (nx = 0))) ∧
      (bnd v' = bnd v ∨ S.next < bnd v') ∧ (nx ≠ 0 → capNo v' = true) := by
  rw [append_run h hu hd]
  obtain ⟨ho1, ho2⟩ := ho
  cases hn : nx with
  | zero =>
    rw [hn] at ht hlen
    have hds : ds = [] := by rw [Nat.zero_mul] at hlen; exact List.length_eq_zero_iff.1 hlen
    subst hds
    refine ⟨v, S, ?_, by rw [List.append_nil]; exact ⟨ho1, ho2⟩, fun _ _ _ => rfl, Nat.le_refl _, rfl, by simp, .inl rfl, fun h => absurd rfl h⟩
    unfold appendV
    rcases ho2 with rfl | ⟨id, g, off, n, lim, cap, rfl, _⟩
    · simp [ht, vals?]
    · simp [ht, nbeq, vals?]
  | succ m =>
    rw [hn] at ht hlen hf
    rcases ho2 with rfl | ⟨id, g, off, n, lim, cap, rfl, hc, hlt, cells, low, top, hg, hl, htq⟩
    · have hcs : cs = [] := by have := ho1.rd; simp only [rdS, Option.some.injEq] at this; exact this.symm
      subst hcs
      have hown : Own (⟨S.h.set S.next (.row ds 0 0 false p.1), S.next + 1⟩ : AS) S.next (.slice S.next 0 0 (m + 1) ((m + 1) * p.2.1) p.2.1 none) p.2.1 p.1 ds :=
        .inr ⟨S.next, 0, 0, m + 1, rfl, Nat.le_refl _, Nat.lt_succ_self _, get_set_same _ _ _, Nat.le_refl _, hlen⟩
      refine ⟨.slice S.next 0 0 (m + 1) ((m + 1) * p.2.1) p.2.1 none, ⟨S.h.set S.next (.row ds 0 0 false p.1), S.next + 1⟩, ?_, hown.gw, fun i hi _ => get_set_ne _ _ (by omega), Nat.le_succ _, by simp [sLen], by simp [isNil], .inr (by simp [bnd]), fun _ => rfl⟩
      unfold appendV
      have hf' : fits (m + 1) p.2.2 = true := by simpa [sLen] using hf
      simp only [ht, hf', cond_true, grown]
      simp [vals?]
    · have htop : g ≤ top := Nat.le_of_eq htq
      have hcl : (cells.drop off).take (n * p.2.1) = cs ∧ cs.length = n * p.2.1 := by
        have h1 := ho1.rd
        have h2 := ho1.len
        simp only [sLen] at h2
        refine ⟨?_, h2⟩
        cases n with
        | zero => simp only [rdS, Option.some.injEq] at h1; subst h1; simp
        | succ n =>
          simp only [rdS, rd_at, hg, rdO_row] at h1
          split at h1
          · simpa using h1
          · cases h1
      obtain ⟨hcl, hcn⟩ := hcl
      have hlen' : (cs ++ ds).length = (n + (m + 1)) * p.2.1 := by rw [List.length_append, hcn, hlen]; exact (Nat.add_mul n (m + 1) p.2.1).symm
      simp only [sLen] at hf
      have e1 : Nat.add n (m + 1) = n + (m + 1) := rfl
      have e2 : Nat.mul n p.2.1 = n * p.2.1 := rfl
      have e3 : Nat.mul (n + (m + 1)) p.2.1 = (n + (m + 1)) * p.2.1 := rfl
      cases cap with
      | some c =>
        simp only [capN, decide_eq_true_eq] at hc
        subst hc
        have hown : Own (⟨S.h.set S.next (.row (cs ++ ds) 0 0 false p.1), S.next + 1⟩ : AS) S.next (.slice S.next 0 0 (c + (m + 1)) ((c + (m + 1)) * p.2.1) p.2.1 none) p.2.1 p.1 (cs ++ ds) :=
          .inr ⟨S.next, 0, 0, c + (m + 1), rfl, Nat.le_refl _, Nat.lt_succ_self _, get_set_same _ _ _, Nat.le_refl _, hlen'⟩
        refine ⟨.slice S.next 0 0 (c + (m + 1)) ((c + (m + 1)) * p.2.1) p.2.1 none, _, ?_, hown.gw, fun i hi _ => get_set_ne _ _ (by omega), Nat.le_succ _, rfl, by simp [isNil], .inr (by simp [bnd]), fun _ => rfl⟩
        unfold appendV
        have e4 : decide (c + (m + 1) ≤ c) = false := by simp
        simp only [ht, nbeq, decide_true, cond_true, hg, nble, hl, htop, Bool.and_self, forceN_eq, e1, hf, e2, e4, cond_false, grown, takeN_eq, dropN_eq, appL_eq, e3, hcl]
        rfl
      | none =>
        unfold appendV
        by_cases hw : (decide (off = 0) && decide (g = top) && decide (cells.length = n * p.2.1)) = true
        · simp only [Bool.and_eq_true, decide_eq_true_eq] at hw
          obtain ⟨⟨rfl, rfl⟩, hw⟩ := hw
          have hcc : cells = cs := by rw [← hcl, List.drop_zero, ← hw, List.take_length]
          subst hcc
          refine ⟨.slice id (g + 1) 0 (n + (m + 1)) ((n + (m + 1)) * p.2.1) p.2.1 none, ⟨S.h.set id (.row (cells ++ ds) low (g + 1) false p.1), S.next⟩, ?_, ?_, fun i hi hne => get_set_ne _ _ (fun e => hne (by simp [bnd, e])), Nat.le_refl _, rfl, by simp [isNil], .inl rfl, fun _ => rfl⟩
          · simp only [ht, nbeq, decide_true, cond_true, hg, nble, hl, Nat.le_refl, Bool.and_self, forceN_eq, e1, hf, Bool.not_true, Bool.or_false, cond_false, lenL_eq, hcn, e2, e3, appL_eq]
            rfl
          · have hown : Own (⟨S.h.set id (.row (cells ++ ds) low (g + 1) false p.1), S.next⟩ : AS) 0 (.slice id (g + 1) 0 (n + (m + 1)) ((n + (m + 1)) * p.2.1) p.2.1 none) p.2.1 p.1 (cells ++ ds) :=
              .inr ⟨id, g + 1, low, n + (m + 1), rfl, Nat.zero_le _, hlt, get_set_same _ _ _, Nat.le_succ_of_le hl, hlen'⟩
            exact hown.gw
        · have hw' : (decide (off = 0) && decide (g = top) && decide (cells.length = n * p.2.1)) = false := by simpa using hw
          refine ⟨.slice id (top + 1) 0 (n + (m + 1)) ((n + (m + 1)) * p.2.1) p.2.1 none, ⟨S.h.set id (.row (cs ++ ds) (top + 1) (top + 1) false p.1), S.next⟩, ?_, ?_, fun i hi hne => get_set_ne _ _ (fun e => hne (by simp [bnd, e])), Nat.le_refl _, rfl, by simp [isNil], .inl rfl, fun _ => rfl⟩
          · simp only [ht, nbeq, decide_true, cond_true, hg, nble, hl, htop, Bool.and_self, forceN_eq, e1, hf, Bool.not_true, Bool.or_false, cond_false, lenL_eq, e2, e3, appL_eq, takeN_eq, dropN_eq, hcl, hw']
            rfl
          · have hown : Own (⟨S.h.set id (.row (cs ++ ds) (top + 1) (top + 1) false p.1), S.next⟩ : AS) 0 (.slice id (top + 1) 0 (n + (m + 1)) ((n + (m + 1)) * p.2.1) p.2.1 none) p.2.1 p.1 (cs ++ ds) :=
              .inr ⟨id, top + 1, top + 1, n + (m + 1), rfl, Nat.zero_le _, hlt, get_set_same _ _ _, Nat.le_refl _, hlen'⟩
            exact hown.gw

/-! ### Bytes -/
def bytA (l : List Nat) : List AV := l.map fun n : Nat => AV.int .u8 (n : Int)
theorem bytA_len (l : List Nat) : (bytA l).length = l.length := by simp [bytA]
theorem bytA_app (l m : List Nat) : bytA l ++ bytA m = bytA (l ++ m) := by simp [bytA]
theorem bytA_one (n : Nat) : [AV.int .u8 (n : Int)] = bytA [n] := rfl
theorem mapL_bytA (s : List Nat) : mapL (fun n => AV.int .u8 (.ofNat n)) s = bytA s := by
  induction s with
  | nil => rfl
  | cons x s ih => show AV.int .u8 (.ofNat x) :: mapL _ s = AV.int .u8 (x : Int) :: bytA s; rw [ih]; rfl
theorem bytesL_bytA : ∀ (s : List Nat), (∀ c, c ∈ s → c < 256) → bytesL (bytA s) = some s
  | [], _ => rfl
  | x :: s, h => by
    show bytesStep (.int .u8 (x : Int)) (bytesL (bytA s)) = _
    rw [bytesL_bytA s fun c hc => h c (List.mem_cons_of_mem _ hc)]
    have hx := h x (List.mem_cons_self ..)
    show cond (Nat.blt x 256) (some (x :: s)) none = _
    rw [nblt]; simp [hx]
noncomputable def strT (cx : Cx) (t : TypeId) : Bool := match und cx t with | some .string => true | _ => false
theorem strT_und {cx : Cx} {t : TypeId} (h : strT cx t = true) : und cx t = some .string := by
  unfold strT at h
  split at h
  · assumption
  · cases h
noncomputable def bytE (cx : Cx) (t : TypeId) : Option TypeId := match und cx t with | some (.slice e) => (match und cx e with | some (.int .u8) => some e | _ => none) | _ => none
theorem bytE_und {cx : Cx} {t e : TypeId} (h : bytE cx t = some e) : und cx t = some (.slice e) ∧ und cx e = some (.int .u8) := by
  unfold bytE at h
  split at h
  · rename_i e' h1
    split at h
    · rename_i h2; cases h; exact ⟨h1, h2⟩
    · cases h
  · cases h
def strOf : AV → Option (List Nat) | .str s => some s | _ => none
theorem strOf_str {s : List Nat} : strOf (.str s) = some s := rfl
section
variable {cx : Cx} {F : Fr} {S : AS} {dst : Option Tmp} {ty : TypeId} {pos : String} {af : Array Edge} {gd : Option (Nat × Bool)}
theorem aop_index_text {t : TypeId} {x ix : Operand} {v w : AV} {s : List Nat} {i c : Nat} (hx : eval F x = v) (hv : strOf v = some s) (hi : eval F ix = w) (hw : natOf w = some i) (h : strT cx t = true) (hc : s[i]? = some c) :
    aop cx F S ⟨dst, .index t x ix, ty, pos, af, gd⟩ = .val (.int .u8 c) S := by
  subst hx hi
  have hu := strT_und h
  cases hx : eval F x <;> rw [hx] at hv <;> simp only [strOf] at hv <;> cases hv
  have hc' : nth i s = some c := by rw [nth_eq]; exact hc
  simp only [aop, hu, hx, hw, hc']; rfl
theorem sliceV_text {t : TypeId} {s : List Nat} {lo hi : Option Operand} {l k : Nat} (h : strT cx t = true) (hl : bound F lo 0 = some l) (hh : bound F hi s.length = some k) (h1 : l ≤ k) (h2 : k ≤ s.length) :
    sliceV cx F t (.str s) lo hi none = some (.str ((s.drop l).take (k - l))) := by
  have hb : bounds F s.length s.length lo hi none = some (l, k, s.length) := by
    unfold bounds
    rw [hl, hh]
    have e : bound F none s.length = some s.length := rfl
    rw [e]
    simp [nble, h1, h2, isS]
  unfold sliceV
  simp only [strT_und h, hb, takeN_eq, dropN_eq]
  rfl
theorem aop_bytes {a b e : TypeId} {x : Operand} {v : AV} {s : List Nat} (hx : eval F x = v) (hv : strOf v = some s) (ha : strT cx a = true) (hb : bytE cx b = some e) :
    aop cx F S ⟨dst, .convert a b x, ty, pos, af, gd⟩ = .val (.slice S.next 0 0 s.length s.length 1 none) ⟨S.h.set S.next (.row (bytA s) 0 0 false e), S.next + 1⟩ := by
  subst hx
  cases hx : eval F x <;> rw [hx] at hv <;> simp only [strOf] at hv <;> cases hv
  obtain ⟨h1, h2⟩ := bytE_und hb
  simp only [aop, strT_und ha, h1, h2, hx, mapL_bytA]
theorem aop_text {a b e : TypeId} {x : Operand} {v : AV} {s : List Nat} (h : Sl S v 1 (bytA s)) (hs : ∀ c, c ∈ s → c < 256) (hx : eval F x = v) (ha : bytE cx a = some e) (hb : strT cx b = true) :
    aop cx F S ⟨dst, .convert a b x, ty, pos, af, gd⟩ = .val (.str s) S := by
  obtain ⟨h1, h2⟩ := bytE_und ha
  have hlen := h.len
  rw [bytA_len, Nat.mul_one] at hlen
  rcases h.cases with rfl | ⟨id, g, off, n, lim, cap, rfl⟩
  · have : s = [] := List.length_eq_zero_iff.1 (by rw [hlen]; rfl)
    subst this
    simp only [aop, h1, strT_und hb, hx, h2]
  · have hrd := h.rd
    simp only [sLen] at hlen
    cases n with
    | zero =>
      have : s = [] := List.length_eq_zero_iff.1 hlen
      subst this
      simp only [aop, h1, strT_und hb, hx, h2]
    | succ n =>
      simp only [rdS, Nat.mul_one] at hrd
      simp only [aop, h1, strT_und hb, hx, h2]
      rw [hrd]
      simp only [bytesL_bytA s hs]
end
theorem copy_text {cx : Cx} {S : AS} {t e e' id : Nat} {ts : List TypeId} {cap : Option Nat} {s : List Nat} {cells : List AV} (hu : und cx t = some (.slice e)) (hz : szOf cx e = some 1) (hn : s ≠ []) (h : S.h.get id = some (.row cells 0 0 false e')) (hl : cells.length = s.length) :
    builtinV cx S .copy (t :: ts) [.slice id 0 0 s.length s.length 1 cap, .str s] = .val (.int .i64 s.length) ⟨S.h.set id (.row (bytA s) 0 0 false e'), S.next⟩ := by
  obtain ⟨m, hm⟩ : ∃ m, s.length = m + 1 := ⟨s.length - 1, by have := List.length_pos_iff.2 hn; omega⟩
  have hw : wr S id 0 0 s.length (takeN (Nat.mul s.length 1) (bytA s)) = some ⟨S.h.set id (.row (bytA s) 0 0 false e'), S.next⟩ := by
    have h1 : takeN (Nat.mul s.length 1) (bytA s) = bytA s := by
      rw [takeN_eq]
      exact List.take_of_length_le (by rw [bytA_len]; show s.length ≤ s.length * 1; omega)
    rw [h1, wr_at, h, wrO_row, if_pos ⟨rfl, by rw [bytA_len]; omega, rfl⟩, splice_eq _ _ _ (Nat.zero_le _)]
    simp only [List.take_zero, List.nil_append, Nat.zero_add, bytA_len]
    rw [List.drop_eq_nil_of_le (by omega), List.append_nil]
  have hc : copyV S 1 (.slice id 0 0 s.length s.length 1 cap) (.str s) = some (.int .i64 s.length, ⟨S.h.set id (.row (bytA s) 0 0 false e'), S.next⟩) := by
    have ht : taken S 1 (.str s) = some (s.length, bytA s) := by
      show cond (Nat.beq 1 1) (some (s.length, mapL _ s)) none = _
      rw [mapL_bytA]; rfl
    unfold copyV
    rw [ht]
    have e1 : Nat.min s.length s.length = s.length := Nat.min_self _
    show cond (Nat.beq 1 1) _ none = _
    simp only [e1]
    rw [hm] at hw ⊢
    show (match wr S id 0 0 (m + 1) (takeN (Nat.mul (m + 1) 1) (bytA s)) with | some S' => some (AV.int .i64 (.ofNat (m + 1)), S') | none => none) = _
    rw [hw]
    rfl
  show (match und cx t with | some (.slice e) => (match szOf cx e with | some (Nat.succ z) => vals? (copyV S (Nat.succ z) (.slice id 0 0 s.length s.length 1 cap) (.str s)) 7 | _ => .err 8) | _ => .err 9) = _
  simp only [hu, hz]
  show vals? (copyV S 1 (.slice id 0 0 s.length s.length 1 cap) (.str s)) 7 = _
  rw [hc]
  rfl
theorem ustr_text {cx : Cx} {S : AS} {t e id g off n lim low top : Nat} {frz : Bool} {ts : List TypeId} {k : IntKind} {s : List Nat} {cells : List AV} (hu : und cx t = some (.pointer e)) (he : und cx e = some (.int .u8)) (hz : szOf cx e = some 1) (hn : 0 < n) (hl : n ≤ 4611686018427387904)
    (h : S.h.get id = some (.row cells low top frz e)) (hf : mayFrz frz low = true) (hr : rd S id g off n lim = some (bytA s)) (hs : ∀ c, c ∈ s → c < 256) :
    builtinV cx S .unsafeString (t :: ts) [.ptr id g off lim, .int k (n : Int)] = .val (.str s) ⟨S.h.set id (.row cells low top true e), S.next⟩ := by
  obtain ⟨m, rfl⟩ : ∃ m, n = m + 1 := ⟨n - 1, by omega⟩
  show vals? (ustrV cx S t (.ptr id g off lim) (m + 1)) 15 = _
  unfold ustrV
  simp only [hu, he, hz, h]
  have e1 : (Nat.beq e e && Nat.ble (m + 1) 4611686018427387904 && mayFrz frz low) = true := by rw [hf, nbeq, nble]; simp [hl]
  rw [e1]
  simp only [cond_true, hr, bytesL_bytA s hs]
  rfl
end Go.Am
