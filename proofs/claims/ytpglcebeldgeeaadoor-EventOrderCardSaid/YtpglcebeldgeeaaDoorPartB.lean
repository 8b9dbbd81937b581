/-
  strconv.ParseUint, ParseInt.
  strconv.ParseUint to the base 16, 8 bits; ParseInt.
  strconv's errors; ParseInt, ParseUint.
  unquote.
  strings.Builder: bytes, texts.
  quote.
  The digits that formatBase10 lays: plain Lean.
  digits of the reference.
  The reference's May and Text.
  The reference's Text.
  The reference's number.
  hex and word of the reference.
  The reference's Parse.
-/
import Derived.Test.YtpglcebeldgeeaaDoorPartA
namespace Go.Proofs.YtpglcebeldgeeaaDoor.val
open Go Go.Am Go.Proofs.YtpglcebeldgeeaaDoor.laid
set_option linter.unusedVariables false
set_option linter.unusedSimpArgs false

section
variable {S : AS}
theorem or_u8 {c : Nat} (hc : c < 256) : ∃ m : Nat, m < 256 ∧ ∀ t b, binV C0 .or t b (.int .u8 c) (.int .u8 32) = some (.int .u8 m) := by
  refine ⟨Nat.lor c 32, Nat.or_lt_two_pow (n := 8) hc (by decide), fun t b => ?_⟩
  show some (cond (Nat.blt c (half .u8) && Nat.blt 32 (half .u8)) (forceN (Nat.lor c 32) fun n => AV.int .u8 (.ofNat n)) _) = _
  have e1 : Nat.blt c (half .u8) = true := by rw [nblt]; simp [half, IntKind.bits, hc]
  have e2 : Nat.blt 32 (half .u8) = true := rfl
  rw [e1, e2]
  simp [forceN_eq]
theorem lower64 {c : Nat} (hc : c < 256) : ∃ m : Nat, m < 256 ∧ ∀ (S : AS) (Q : AV → AS → Prop), CallW C0 88 [.int .u8 c] S Q = Q (.int .u8 m) S := by
  obtain ⟨m, hm, e⟩ := or_u8 hc
  refine ⟨m, hm, fun S Q => ?_⟩
  refine CallW.eq (enterW (pu0 _) (pr0 _ rfl) fn64 rfl ok64 (by simp) fun F hn hs => ?_)
  have s0 := hs 0
  clear hs
  simp only [List.getElem?_cons_zero, Option.getD_some] at s0
  simp [s0, e]
theorem nt53 : Tryd.f70.ntmps = 172 := by kernel_rfl
theorem shl64 (c : Bool) (t : TypeId) : binV C0 .shl t c (.int .u64 1) (.int .u64 64) = some (.int .u64 0) := by kernel_rfl
theorem byt_get {s : List Nat} {i c : Nat} (h : s[i]? = some c) : (bytA s)[i]? = some (.int .u8 c) := by unfold bytA; rw [List.getElem?_map, h]; rfl
/-- What ParseUint answers. -/
def uintR (r : AV) (o : Option Nat) : Prop := match o with | some u => r = .tuple [.int .u64 u, .niface] | none => ∃ (w : Nat) (k : Int), r = .tuple [.int .u64 w, .iface 112 (.int .i64 k)] ∧ ((k = 1 ∧ w = 18446744073709551615) ∨ k = 2)
def p53H (T : AS) (w : AV) (s : List Nat) (R : Option Nat) (k : Nat) (F' : Fr) (S' : AS) : Prop :=
  S' = T ∧ ∃ i acc : Nat, parN 18446744073709551615 (s.drop i) acc = R ∧ acc ≤ 18446744073709551615 ∧ sl F' 1 = .int .i64 10 ∧ sl F' 8 = .bool false ∧ sl F' 10 = .int .u64 1844674407370955162 ∧ sl F' 11 = .int .u64 18446744073709551615 ∧ sl F' 12 = .bool false ∧ sl F' 13 = .int .u64 acc ∧
    sl F' 99 = w ∧ sl F' 100 = .int .i64 s.length ∧ sl F' 101 = .int .i64 i ∧ F'.n = 172 ∧ i ≤ s.length ∧ k = s.length - i
set_option maxRecDepth 20000 in
theorem parse53 {s : List Nat} (hs : ∀ c, c ∈ s → c < 256) (hl : s.length < 4611686018427387904) : CallW C0 70 [.str s, .int .i64 10, .int .i64 64] S fun r T => Sub S T ∧ uintR r (magN s) := by
  refine enterW (pu0 _) (pr0 _ rfl) fn53 rfl ok53 (by simp) fun F hn hs' => ?_
  rw [nt53] at hn
  have s0 := hs' 0
  have s1 := hs' 1
  have s2 := hs' 2
  clear hs'
  simp only [List.getElem?_cons_zero, List.getElem?_cons_succ, Option.getD_some] at s0 s1 s2
  by_cases he : s = []
  · subst he
    simp [s0, s1, s2, eqS_eq, Sub.refl, magN, uintR]
    exact ⟨0, 2, ⟨rfl, rfl⟩, .inr rfl⟩
  · have hA : Sub S ⟨S.h.set S.next (.row (bytA s) 0 0 false 5), S.next + 1⟩ := sub1
    have hsl : Sl (⟨S.h.set S.next (.row (bytA s) 0 0 false 5), S.next + 1⟩ : AS) (.slice S.next 0 0 s.length s.length 1 none) 1 (bytA s) := by
      refine ⟨by simp [isSl, capB], ?_, by rw [bytA_len]; simp [sLen], by simp [bnd]⟩
      cases hc : s.length with
      | zero => exact absurd (List.length_eq_zero_iff.1 hc) he
      | succ n =>
        have := bytA_len s
        simp [rdS, rd_at, rdO_row, hc, this]
        rw [List.take_of_length_le (by rw [this, hc]; exact Nat.le_refl _)]
    have w64 : IntKind.u64.wrap 64 = 64 := rfl
    have w0 : IntKind.u64.wrap (-1) = 18446744073709551615 := rfl
    have w10 : IntKind.u8.wrap 10 = 10 := rfl
    have v10 : IntKind.u64.wrap 10 = 10 := rfl
    have hmag : parN 18446744073709551615 (s.drop 0) 0 = magN s := by unfold magN; rw [if_neg he, List.drop_zero]
    generalize magN s = R at hmag
    simp [s0, s1, s2, eqS_eq, he, shl64, w64, w0, aop_bytes, strOf_str]
    refine loopP_of (p53H ⟨S.h.set S.next (.row (bytA s) 0 0 false 5), S.next + 1⟩ (.slice S.next 0 0 s.length s.length 1 none) s R) s.length ⟨rfl, 0, 0, hmag, by omega, by simp [s1], by simp, by simp, by simp, by simp, by simp, by simp, by simp, by simp, by simp [hn], Nat.zero_le _, rfl⟩ ?_
    clear s0 s1 s2 hn
    rintro k F' S' hn' ⟨rfl, i, acc, hp, ha, s1, s8, s10, s11, s12, s13, s99, s100, s101, hn, hi, hk⟩
    clear hn'
    by_cases hi' : i < s.length
    · have hc : s[i]? = some (s[i]'hi') := List.getElem?_eq_getElem _
      have hcb := hs _ (List.getElem_mem hi')
      have hdr : s.drop i = s[i]'hi' :: s.drop (i + 1) := List.drop_eq_getElem_cons hi'
      generalize s[i]'hi' = c at hc hcb hdr
      rw [hdr] at hp
      unfold parN at hp
      have hld := loadT_sl (cx := C0) (e := 5) hsl (byt_get hc) (by kernel_rfl)
      have hw := i64_of (y := i + 1) (by omega)
      simp at hw
      by_cases hd : 48 ≤ c ∧ c ≤ 57
      · have d1 : (48 : Int) ≤ c := by omega
        have d2 : (c : Int) ≤ 57 := by omega
        have wd : IntKind.u8.wrap ((c : Int) - 48) = ((c - 48 : Nat) : Int) := by rw [show ((c : Int) - 48) = ((c - 48 : Nat) : Int) by omega]; exact u8_of (by omega)
        have wd2 := u64_of (y := c - 48) (by omega)
        have d3 : ¬ 10 ≤ c - 48 := by omega
        have d3' : ¬ (10 : Int) ≤ ((c - 48 : Nat) : Int) := by omega
        have d4 : ¬ (c : Int) = 95 := by omega
        have d5 : ¬ c = 95 := by omega
        by_cases hq : 1844674407370955162 ≤ acc
        · have hq' : (1844674407370955162 : Int) ≤ acc := by omega
          rw [if_neg (by omega)] at hp
          rw [← hp]
          simp [s1, s8, s10, s11, s12, s13, s99, s100, s101, hi', hld, d1, d2, wd, d3, d3', d4, d5, w10, hq', hA, uintR]
          exact ⟨18446744073709551615, 1, ⟨rfl, rfl⟩, .inl ⟨rfl, rfl⟩⟩
        · have hq' : ¬ (1844674407370955162 : Int) ≤ acc := by omega
          have wm := u64_of (y := acc * 10) (by omega)
          simp at wm
          by_cases hov : 10 * acc + (c - 48) ≤ 18446744073709551615
          · rw [if_pos ⟨hd.1, hd.2, hov⟩] at hp
            have wn : IntKind.u64.wrap ((acc : Int) * 10 + ((c - 48 : Nat) : Int)) = ((10 * acc + (c - 48) : Nat) : Int) := by
              rw [show ((acc : Int) * 10 + ((c - 48 : Nat) : Int)) = ((10 * acc + (c - 48) : Nat) : Int) by omega]
              exact u64_of (by omega)
            have k1 : ¬ ((10 * acc + (c - 48) : Nat) : Int) < (acc : Int) * 10 := by omega
            have k2 : ¬ (18446744073709551615 : Int) < ((10 * acc + (c - 48) : Nat) : Int) := by omega
            generalize 10 * acc + (c - 48) = acc' at hp wn k1 k2 hov
            simp [s1, s8, s10, s11, s12, s13, s99, s100, s101, hi', hld, d1, d2, wd, d3, d3', d4, d5, w10, hq', wd2, v10, wm, wn, k1, k2, hov]
            exact ⟨s.length - (i + 1), by omega, rfl, i + 1, acc', hp, hov, by simp [s1], by simp [s8], by simp [s10], by simp [s11], by simp [s12], by simp, by simp [s99], by simp [s100], by simp [hw], by simp [hn], hi', rfl⟩
          · rw [if_neg (by omega)] at hp
            rw [← hp]
            obtain ⟨x, hx⟩ : ∃ x : Nat, x = 10 * acc + (c - 48) - 18446744073709551616 := ⟨_, rfl⟩
            have wn : IntKind.u64.wrap ((acc : Int) * 10 + ((c - 48 : Nat) : Int)) = (x : Int) := by
              simp [IntKind.wrap, IntKind.bits, IntKind.signed]; omega
            have k1 : (x : Int) < (acc : Int) * 10 := by omega
            simp [s1, s8, s10, s11, s12, s13, s99, s100, s101, hi', hld, d1, d2, wd, d3, d3', d4, d5, w10, hq', wd2, v10, wm, wn, k1, hA, uintR]
            exact ⟨18446744073709551615, 1, ⟨rfl, rfl⟩, .inl ⟨rfl, rfl⟩⟩
      · rw [if_neg (by omega)] at hp
        rw [← hp]
        obtain ⟨m, hm, e64⟩ := lower64 hcb
        have hdd : ¬ ((48 : Int) ≤ c ∧ (c : Int) ≤ 57) := by omega
        have fin : ∃ w k : Int, True := ⟨0, 0, trivial⟩
        by_cases hl1 : 97 ≤ m ∧ m ≤ 122
        · have m1 : (97 : Int) ≤ m := by omega
          have m2 : (m : Int) ≤ 122 := by omega
          have wm1 : IntKind.u8.wrap ((m : Int) - 97) = ((m - 97 : Nat) : Int) := by rw [show ((m : Int) - 97) = ((m - 97 : Nat) : Int) by omega]; exact u8_of (by omega)
          have wm2 : IntKind.u8.wrap (((m - 97 : Nat) : Int) + 10) = ((m - 97 + 10 : Nat) : Int) := by rw [← u8_of (y := m - 97 + 10) (by omega)]; simp
          have d3 : (10 : Int) ≤ ((m - 97 + 10 : Nat) : Int) := by omega
          generalize m - 97 + 10 = d at wm2 d3
          by_cases h48 : (48 : Int) ≤ c
          · have h57 : ¬ (c : Int) ≤ 57 := by omega
            by_cases h95 : c = 95
            · have e95 : ∀ (S : AS) (Q : AV → AS → Prop), CallW C0 88 [.int .u8 95] S Q = Q (.int .u8 m) S := by rw [h95] at e64; exact e64
              simp [s1, s8, s10, s11, s12, s13, s99, s100, s101, hi', hld, h95, e95, ex0, m1, m2, wm1, wm2, d3, w10, hA, uintR]
              exact ⟨0, 2, ⟨rfl, rfl⟩, .inr rfl⟩
            · have h95' : ¬ (c : Int) = 95 := by omega
              simp [s1, s8, s10, s11, s12, s13, s99, s100, s101, hi', hld, h95, h95', h48, h57, e64, ex0, m1, m2, wm1, wm2, d3, w10, hA, uintR]
              exact ⟨0, 2, ⟨rfl, rfl⟩, .inr rfl⟩
          · have h95 : ¬ c = 95 := by omega
            have h95' : ¬ (c : Int) = 95 := by omega
            simp [s1, s8, s10, s11, s12, s13, s99, s100, s101, hi', hld, h95, h95', h48, e64, ex0, m1, m2, wm1, wm2, d3, w10, hA, uintR]
            exact ⟨0, 2, ⟨rfl, rfl⟩, .inr rfl⟩
        · by_cases m1 : (97 : Int) ≤ m
          · have m2 : ¬ (m : Int) ≤ 122 := by omega
            by_cases h48 : (48 : Int) ≤ c
            · have h57 : ¬ (c : Int) ≤ 57 := by omega
              by_cases h95 : c = 95
              · have e95 : ∀ (S : AS) (Q : AV → AS → Prop), CallW C0 88 [.int .u8 95] S Q = Q (.int .u8 m) S := by rw [h95] at e64; exact e64
                simp [s1, s8, s10, s11, s12, s13, s99, s100, s101, hi', hld, h95, e95, ex0, m1, m2, w10, hA, uintR]
                exact ⟨0, 2, ⟨rfl, rfl⟩, .inr rfl⟩
              · have h95' : ¬ (c : Int) = 95 := by omega
                simp [s1, s8, s10, s11, s12, s13, s99, s100, s101, hi', hld, h95, h95', h48, h57, e64, ex0, m1, m2, w10, hA, uintR]
                exact ⟨0, 2, ⟨rfl, rfl⟩, .inr rfl⟩
            · have h95 : ¬ c = 95 := by omega
              have h95' : ¬ (c : Int) = 95 := by omega
              simp [s1, s8, s10, s11, s12, s13, s99, s100, s101, hi', hld, h95, h95', h48, e64, ex0, m1, m2, w10, hA, uintR]
              exact ⟨0, 2, ⟨rfl, rfl⟩, .inr rfl⟩
          · by_cases h48 : (48 : Int) ≤ c
            · have h57 : ¬ (c : Int) ≤ 57 := by omega
              by_cases h95 : c = 95
              · have e95 : ∀ (S : AS) (Q : AV → AS → Prop), CallW C0 88 [.int .u8 95] S Q = Q (.int .u8 m) S := by rw [h95] at e64; exact e64
                simp [s1, s8, s10, s11, s12, s13, s99, s100, s101, hi', hld, h95, e95, ex0, m1, w10, hA, uintR]
                exact ⟨0, 2, ⟨rfl, rfl⟩, .inr rfl⟩
              · have h95' : ¬ (c : Int) = 95 := by omega
                simp [s1, s8, s10, s11, s12, s13, s99, s100, s101, hi', hld, h95, h95', h48, h57, e64, ex0, m1, w10, hA, uintR]
                exact ⟨0, 2, ⟨rfl, rfl⟩, .inr rfl⟩
            · have h95 : ¬ c = 95 := by omega
              have h95' : ¬ (c : Int) = 95 := by omega
              simp [s1, s8, s10, s11, s12, s13, s99, s100, s101, hi', hld, h95, h95', h48, e64, ex0, m1, w10, hA, uintR]
              exact ⟨0, 2, ⟨rfl, rfl⟩, .inr rfl⟩
    · obtain rfl : i = s.length := by omega
      rw [List.drop_length] at hp
      rw [← hp]
      simp [s1, s8, s10, s11, s12, s13, s99, s100, s101, hi', parN, uintR, hA]
end
end Go.Proofs.YtpglcebeldgeeaaDoor.val

namespace Go.Proofs.YtpglcebeldgeeaaDoor.val
open Go Go.Am Go.Proofs.YtpglcebeldgeeaaDoor.laid
set_option linter.unusedVariables false
set_option linter.unusedSimpArgs false

def parX : List Nat → Nat → Option Nat
  | [], acc => some acc
  | c :: l, acc => match hexV c with | some d => if 16 * acc + d ≤ 255 then parX l (16 * acc + d) else none | none => none
theorem parX_two (a b : Nat) : parX [a, b] 0 = hex2 a b := by
  unfold hex2
  simp only [parX]
  cases ha : hexV a with
  | none => rfl
  | some x =>
    have hx := hexV_lt ha
    simp only
    rw [if_pos (by omega)]
    cases hb : hexV b with
    | none => rfl
    | some y =>
      have hy := hexV_lt hb
      simp only
      rw [if_pos (by omega)]
      congr 1; omega
theorem hex_tab : ∀ c : Fin 256, (48 ≤ c.val ∧ c.val ≤ 57 → hexV c.val = some (c.val - 48)) ∧ (¬ (48 ≤ c.val ∧ c.val ≤ 57) → (97 ≤ Nat.lor c.val 32 ∧ Nat.lor c.val 32 ≤ 102 → hexV c.val = some (Nat.lor c.val 32 - 87)) ∧ (¬ (97 ≤ Nat.lor c.val 32 ∧ Nat.lor c.val 32 ≤ 102) → hexV c.val = none)) := by decide +kernel
theorem lower64x {c : Nat} (hc : c < 256) (S : AS) (Q : AV → AS → Prop) : CallW C0 88 [.int .u8 c] S Q = Q (.int .u8 (Nat.lor c 32 : Nat)) S := by
  have e : ∀ t b, binV C0 .or t b (.int .u8 c) (.int .u8 32) = some (.int .u8 (Nat.lor c 32 : Nat)) := fun t b => by
    show some (cond (Nat.blt c (half .u8) && Nat.blt 32 (half .u8)) (forceN (Nat.lor c 32) fun n => AV.int .u8 (.ofNat n)) _) = _
    have e1 : Nat.blt c (half .u8) = true := by rw [nblt]; simp [half, IntKind.bits, hc]
    have e2 : Nat.blt 32 (half .u8) = true := rfl
    rw [e1, e2]
    simp [forceN_eq]
  generalize Nat.lor c 32 = m at e
  refine CallW.eq (enterW (pu0 _) (pr0 _ rfl) fn64 rfl ok64 (by simp) fun F hn hs => ?_)
  have s0 := hs 0
  clear hs
  simp only [List.getElem?_cons_zero, Option.getD_some] at s0
  simp [s0, e]
def uintX (r : AV) (o : Option Nat) : Prop := match o with | some u => r = .tuple [.int .u64 u, .niface] | none => ∃ (w : Nat) (k : Int), r = .tuple [.int .u64 w, .iface 112 (.int .i64 k)] ∧ (k = 1 ∨ k = 2)
def p53X (T : AS) (w : AV) (s : List Nat) (R : Option Nat) (k : Nat) (F' : Fr) (S' : AS) : Prop :=
  S' = T ∧ ∃ i acc : Nat, parX (s.drop i) acc = R ∧ acc ≤ 255 ∧ sl F' 1 = .int .i64 16 ∧ sl F' 8 = .bool false ∧ sl F' 10 = .int .u64 1152921504606846976 ∧ sl F' 11 = .int .u64 255 ∧ sl F' 12 = .bool false ∧ sl F' 13 = .int .u64 acc ∧
    sl F' 99 = w ∧ sl F' 100 = .int .i64 s.length ∧ sl F' 101 = .int .i64 i ∧ F'.n = 172 ∧ i ≤ s.length ∧ k = s.length - i
theorem shl8 (c : Bool) (t : TypeId) : binV C0 .shl t c (.int .u64 1) (.int .u64 8) = some (.int .u64 256) := by kernel_rfl
section
variable {S : AS}
set_option maxRecDepth 20000 in
theorem parse53x {s : List Nat} (hs : ∀ c, c ∈ s → c < 256) (hl : s.length < 4611686018427387904) (he : s ≠ []) : CallW C0 70 [.str s, .int .i64 16, .int .i64 8] S fun r T => Sub S T ∧ uintX r (parX s 0) := by
  refine enterW (pu0 _) (pr0 _ rfl) fn53 rfl ok53 (by simp) fun F hn hs' => ?_
  rw [nt53] at hn
  have s0 := hs' 0
  have s1 := hs' 1
  have s2 := hs' 2
  clear hs'
  simp only [List.getElem?_cons_zero, List.getElem?_cons_succ, Option.getD_some] at s0 s1 s2
  have hA : Sub S ⟨S.h.set S.next (.row (bytA s) 0 0 false 5), S.next + 1⟩ := sub1
  have hsl : Sl (⟨S.h.set S.next (.row (bytA s) 0 0 false 5), S.next + 1⟩ : AS) (.slice S.next 0 0 s.length s.length 1 none) 1 (bytA s) := by
    refine ⟨by simp [isSl, capB], ?_, by rw [bytA_len]; simp [sLen], by simp [bnd]⟩
    cases hc : s.length with
    | zero => exact absurd (List.length_eq_zero_iff.1 hc) he
    | succ n =>
      have := bytA_len s
      simp [rdS, rd_at, rdO_row, hc, this]
      rw [List.take_of_length_le (by rw [this, hc]; exact Nat.le_refl _)]
  have w8 : IntKind.u64.wrap 8 = 8 := rfl
  have w255 : IntKind.u64.wrap 255 = 255 := rfl
  have w16 : IntKind.u8.wrap 16 = 16 := rfl
  have v16 : IntKind.u64.wrap 16 = 16 := rfl
  have hmag : parX (s.drop 0) 0 = parX s 0 := by rw [List.drop_zero]
  generalize parX s 0 = R at hmag
  simp [s0, s1, s2, eqS_eq, he, shl8, w8, w255, aop_bytes, strOf_str]
  refine loopP_of (p53X ⟨S.h.set S.next (.row (bytA s) 0 0 false 5), S.next + 1⟩ (.slice S.next 0 0 s.length s.length 1 none) s R) s.length ⟨rfl, 0, 0, hmag, by omega, by simp [s1], by simp, by simp, by simp, by simp, by simp, by simp, by simp, by simp, by simp [hn], Nat.zero_le _, rfl⟩ ?_
  clear s0 s1 s2 hn
  rintro k F' S' hn' ⟨rfl, i, acc, hp, ha, s1, s8, s10, s11, s12, s13, s99, s100, s101, hn, hi, hk⟩
  clear hn'
  by_cases hi' : i < s.length
  · have hc : s[i]? = some (s[i]'hi') := List.getElem?_eq_getElem _
    have hcb := hs _ (List.getElem_mem hi')
    have hdr : s.drop i = s[i]'hi' :: s.drop (i + 1) := List.drop_eq_getElem_cons hi'
    generalize s[i]'hi' = c at hc hcb hdr
    rw [hdr] at hp
    unfold parX at hp
    have hld := loadT_sl (cx := C0) (e := 5) hsl (byt_get hc) (by kernel_rfl)
    have hw := i64_of (y := i + 1) (by omega)
    simp at hw
    have hq' : ¬ (1152921504606846976 : Int) ≤ acc := by omega
    have wm := u64_of (y := acc * 16) (by omega)
    simp at wm
    obtain ⟨t1, t2⟩ := hex_tab ⟨c, hcb⟩
    simp only at t1 t2
    by_cases hd : 48 ≤ c ∧ c ≤ 57
    · rw [t1 hd] at hp
      simp only at hp
      have d1 : (48 : Int) ≤ c := by omega
      have d2 : (c : Int) ≤ 57 := by omega
      have wd : IntKind.u8.wrap ((c : Int) - 48) = ((c - 48 : Nat) : Int) := by rw [show ((c : Int) - 48) = ((c - 48 : Nat) : Int) by omega]; exact u8_of (by omega)
      have wd2 := u64_of (y := c - 48) (by omega)
      have d3 : ¬ 16 ≤ c - 48 := by omega
      have d3' : ¬ (16 : Int) ≤ ((c - 48 : Nat) : Int) := by omega
      have d4 : ¬ (c : Int) = 95 := by omega
      have d5 : ¬ c = 95 := by omega
      generalize hdd : c - 48 = d at hp wd wd2 d3 d3'
      have wn : IntKind.u64.wrap ((acc : Int) * 16 + (d : Int)) = ((16 * acc + d : Nat) : Int) := by
        rw [show ((acc : Int) * 16 + (d : Int)) = ((16 * acc + d : Nat) : Int) by omega]
        exact u64_of (by omega)
      have k1 : ¬ ((16 * acc + d : Nat) : Int) < (acc : Int) * 16 := by omega
      by_cases hov : 16 * acc + d ≤ 255
      · rw [if_pos hov] at hp
        have k2 : ¬ (255 : Int) < ((16 * acc + d : Nat) : Int) := by omega
        generalize 16 * acc + d = acc' at hp wn k1 k2 hov
        have k3 : ¬ 255 < acc' := by omega
        simp [s1, s8, s10, s11, s12, s13, s99, s100, s101, hi', hld, d1, d2, wd, d3, d3', d4, d5, w16, hq', wd2, v16, wm, wn, k1, k2, k3]
        exact ⟨s.length - (i + 1), by omega, rfl, i + 1, acc', hp, hov, by simp [s1], by simp [s8], by simp [s10], by simp [s11], by simp [s12], by simp, by simp [s99], by simp [s100], by simp [hw], by simp [hn], hi', rfl⟩
      · rw [if_neg hov] at hp
        rw [← hp]
        have k2 : (255 : Int) < ((16 * acc + d : Nat) : Int) := by omega
        generalize 16 * acc + d = acc' at wn k1 k2 hov
        have k3 : 255 < acc' := by omega
        simp [s1, s8, s10, s11, s12, s13, s99, s100, s101, hi', hld, d1, d2, wd, d3, d3', d4, d5, w16, hq', wd2, v16, wm, wn, k1, k2, k3, hA, uintX]
        exact ⟨255, 1, ⟨rfl, rfl⟩, .inl rfl⟩
    · obtain ⟨t3, t4⟩ := t2 hd
      have e64 := fun S Q => lower64x hcb S Q
      generalize hmm : Nat.lor c 32 = m at t3 t4 e64
      have hm : m < 256 := by rw [← hmm]; exact Nat.or_lt_two_pow (n := 8) hcb (by decide)
      by_cases hl1 : 97 ≤ m ∧ m ≤ 102
      · rw [t3 hl1] at hp
        simp only at hp
        have m1 : (97 : Int) ≤ m := by omega
        have m2 : (m : Int) ≤ 122 := by omega
        have wm1 : IntKind.u8.wrap ((m : Int) - 97) = ((m - 97 : Nat) : Int) := by rw [show ((m : Int) - 97) = ((m - 97 : Nat) : Int) by omega]; exact u8_of (by omega)
        have wm2 : IntKind.u8.wrap (((m - 97 : Nat) : Int) + 10) = ((m - 87 : Nat) : Int) := by rw [show (((m - 97 : Nat) : Int) + 10) = ((m - 87 : Nat) : Int) by omega]; exact u8_of (by omega)
        have wd2 := u64_of (y := m - 87) (by omega)
        have d3 : ¬ 16 ≤ m - 87 := by omega
        have d3' : ¬ (16 : Int) ≤ ((m - 87 : Nat) : Int) := by omega
        have hc1 : (65 ≤ c ∧ c ≤ 70) ∨ (97 ≤ c ∧ c ≤ 102) := by
          have := t3 hl1
          unfold hexV at this
          split at this
          · omega
          · split at this
            · omega
            · split at this
              · omega
              · cases this
        have h48 : (48 : Int) ≤ c := by omega
        have h57 : ¬ (c : Int) ≤ 57 := by omega
        have d4 : ¬ (c : Int) = 95 := by omega
        have d5 : ¬ c = 95 := by omega
        generalize m - 87 = d at hp wm2 wd2 d3 d3'
        have wn : IntKind.u64.wrap ((acc : Int) * 16 + (d : Int)) = ((16 * acc + d : Nat) : Int) := by
          rw [show ((acc : Int) * 16 + (d : Int)) = ((16 * acc + d : Nat) : Int) by omega]
          exact u64_of (by omega)
        have k1 : ¬ ((16 * acc + d : Nat) : Int) < (acc : Int) * 16 := by omega
        by_cases hov : 16 * acc + d ≤ 255
        · rw [if_pos hov] at hp
          have k2 : ¬ (255 : Int) < ((16 * acc + d : Nat) : Int) := by omega
          generalize 16 * acc + d = acc' at hp wn k1 k2 hov
          have k3 : ¬ 255 < acc' := by omega
          simp [s1, s8, s10, s11, s12, s13, s99, s100, s101, hi', hld, h48, h57, e64, ex0, m1, m2, wm1, wm2, d3, d3', d4, d5, w16, hq', wd2, v16, wm, wn, k1, k2, k3]
          exact ⟨s.length - (i + 1), by omega, rfl, i + 1, acc', hp, hov, by simp [s1], by simp [s8], by simp [s10], by simp [s11], by simp [s12], by simp, by simp [s99], by simp [s100], by simp [hw], by simp [hn], hi', rfl⟩
        · rw [if_neg hov] at hp
          rw [← hp]
          have k2 : (255 : Int) < ((16 * acc + d : Nat) : Int) := by omega
          generalize 16 * acc + d = acc' at wn k1 k2 hov
          have k3 : 255 < acc' := by omega
          simp [s1, s8, s10, s11, s12, s13, s99, s100, s101, hi', hld, h48, h57, e64, ex0, m1, m2, wm1, wm2, d3, d3', d4, d5, w16, hq', wd2, v16, wm, wn, k1, k2, k3, hA, uintX]
          exact ⟨255, 1, ⟨rfl, rfl⟩, .inl rfl⟩
      · rw [t4 hl1] at hp
        simp only at hp
        rw [← hp]
        by_cases m1 : (97 : Int) ≤ m
        · by_cases m2 : (m : Int) ≤ 122
          · have wm1 : IntKind.u8.wrap ((m : Int) - 97) = ((m - 97 : Nat) : Int) := by rw [show ((m : Int) - 97) = ((m - 97 : Nat) : Int) by omega]; exact u8_of (by omega)
            have wm2 : IntKind.u8.wrap (((m - 97 : Nat) : Int) + 10) = ((m - 87 : Nat) : Int) := by rw [show (((m - 97 : Nat) : Int) + 10) = ((m - 87 : Nat) : Int) by omega]; exact u8_of (by omega)
            have d3 : (16 : Int) ≤ ((m - 87 : Nat) : Int) := by omega
            generalize m - 87 = d at wm2 d3
            have d3' : 16 ≤ d := by omega
            by_cases h48 : (48 : Int) ≤ c
            · have h57 : ¬ (c : Int) ≤ 57 := by omega
              by_cases h95 : c = 95
              · have e95 : ∀ (S : AS) (Q : AV → AS → Prop), CallW C0 88 [.int .u8 95] S Q = Q (.int .u8 m) S := by rw [h95] at e64; exact e64
                simp [s1, s8, s10, s11, s12, s13, s99, s100, s101, hi', hld, h95, e95, ex0, m1, m2, wm1, wm2, d3, d3', w16, hA, uintX]
                exact ⟨0, 2, ⟨rfl, rfl⟩, .inr rfl⟩
              · have h95' : ¬ (c : Int) = 95 := by omega
                simp [s1, s8, s10, s11, s12, s13, s99, s100, s101, hi', hld, h95, h95', h48, h57, e64, ex0, m1, m2, wm1, wm2, d3, d3', w16, hA, uintX]
                exact ⟨0, 2, ⟨rfl, rfl⟩, .inr rfl⟩
            · have h95 : ¬ c = 95 := by omega
              have h95' : ¬ (c : Int) = 95 := by omega
              simp [s1, s8, s10, s11, s12, s13, s99, s100, s101, hi', hld, h95, h95', h48, e64, ex0, m1, m2, wm1, wm2, d3, d3', w16, hA, uintX]
              exact ⟨0, 2, ⟨rfl, rfl⟩, .inr rfl⟩
          · skip
            by_cases h48 : (48 : Int) ≤ c
            · have h57 : ¬ (c : Int) ≤ 57 := by omega
              by_cases h95 : c = 95
              · have e95 : ∀ (S : AS) (Q : AV → AS → Prop), CallW C0 88 [.int .u8 95] S Q = Q (.int .u8 m) S := by rw [h95] at e64; exact e64
                simp [s1, s8, s10, s11, s12, s13, s99, s100, s101, hi', hld, h95, e95, ex0, m1, m2, w16, hA, uintX]
                exact ⟨0, 2, ⟨rfl, rfl⟩, .inr rfl⟩
              · have h95' : ¬ (c : Int) = 95 := by omega
                simp [s1, s8, s10, s11, s12, s13, s99, s100, s101, hi', hld, h95, h95', h48, h57, e64, ex0, m1, m2, w16, hA, uintX]
                exact ⟨0, 2, ⟨rfl, rfl⟩, .inr rfl⟩
            · have h95 : ¬ c = 95 := by omega
              have h95' : ¬ (c : Int) = 95 := by omega
              simp [s1, s8, s10, s11, s12, s13, s99, s100, s101, hi', hld, h95, h95', h48, e64, ex0, m1, m2, w16, hA, uintX]
              exact ⟨0, 2, ⟨rfl, rfl⟩, .inr rfl⟩
        · skip
          by_cases h48 : (48 : Int) ≤ c
          · have h57 : ¬ (c : Int) ≤ 57 := by omega
            by_cases h95 : c = 95
            · have e95 : ∀ (S : AS) (Q : AV → AS → Prop), CallW C0 88 [.int .u8 95] S Q = Q (.int .u8 m) S := by rw [h95] at e64; exact e64
              simp [s1, s8, s10, s11, s12, s13, s99, s100, s101, hi', hld, h95, e95, ex0, m1, w16, hA, uintX]
              exact ⟨0, 2, ⟨rfl, rfl⟩, .inr rfl⟩
            · have h95' : ¬ (c : Int) = 95 := by omega
              simp [s1, s8, s10, s11, s12, s13, s99, s100, s101, hi', hld, h95, h95', h48, h57, e64, ex0, m1, w16, hA, uintX]
              exact ⟨0, 2, ⟨rfl, rfl⟩, .inr rfl⟩
          · have h95 : ¬ c = 95 := by omega
            have h95' : ¬ (c : Int) = 95 := by omega
            simp [s1, s8, s10, s11, s12, s13, s99, s100, s101, hi', hld, h95, h95', h48, e64, ex0, m1, w16, hA, uintX]
            exact ⟨0, 2, ⟨rfl, rfl⟩, .inr rfl⟩
  · obtain rfl : i = s.length := by omega
    rw [List.drop_length] at hp
    rw [← hp]
    simp [s1, s8, s10, s11, s12, s13, s99, s100, s101, hi', parX, uintX, hA]
end
end Go.Proofs.YtpglcebeldgeeaaDoor.val

namespace Go.Proofs.YtpglcebeldgeeaaDoor.val
open Go Go.Am Go.Proofs.YtpglcebeldgeeaaDoor.laid
set_option linter.unusedVariables false
set_option linter.unusedSimpArgs false

section
variable {S : AS}
theorem ud56 : und C0 43 = some (.slice 5) := by kernel_rfl
theorem ud5 : und C0 5 = some (.int .u8) := by kernel_rfl
theorem zz5 : szOf C0 5 = some 1 := by kernel_rfl
@[simp] theorem ze5' : zeroOf C0 5 = some (.int .u8 0) := by kernel_rfl
theorem ud_p5 : und C0 75 = some (.pointer 5) := by kernel_rfl
theorem clone66 {s : List Nat} (hs : ∀ c, c ∈ s → c < 256) (hl : s.length ≤ 140737488355328) : CallW C0 90 [.str s] S fun r T => r = .str s ∧ Sub S T := by
  refine enterW (pu0 _) (pr0 _ rfl) fn66 rfl ok66 (by simp) fun F hn hs' => ?_
  have s0 := hs' 0
  clear hs'
  simp only [List.getElem?_cons_zero, Option.getD_some] at s0
  by_cases he : s.length = 0
  · have hee : s = [] := List.length_eq_zero_iff.1 he
    subst hee
    simp [s0, len_str und9, Sub.refl]
  · have hee : s ≠ [] := fun e => he (by rw [e]; rfl)
    have hfit : fits s.length 1 = true := by simp [fits, nble]; omega
    obtain ⟨m, hm⟩ : ∃ m, s.length = m + 1 := ⟨s.length - 1, by omega⟩
    have c1 : builtinV C0 ⟨S.h.set S.next (.row (List.replicate s.length (.int .u8 0)) 0 0 false 5), S.next + 1⟩ .copy [43, 9] [.slice S.next 0 0 s.length s.length 1 (some s.length), .str s] = .val (.int .i64 s.length) ⟨(S.h.set S.next (.row (List.replicate s.length (.int .u8 0)) 0 0 false 5)).set S.next (.row (bytA s) 0 0 false 5), S.next + 1⟩ :=
      copy_text ud56 zz5 hee (get_set_same _ _ _) (by simp)
    have g2 : ((S.h.set S.next (.row (List.replicate s.length (.int .u8 0)) 0 0 false 5)).set S.next (.row (bytA s) 0 0 false 5)).get S.next = some (.row (bytA s) 0 0 false 5) := get_set_same _ _ _
    have ix := fun (F : Fr) (S' : AS) (dst : Option Tmp) (ty : TypeId) (pos : String) (af : Array Edge) (gd : Option (Nat × Bool)) (x : Tmp) (a : sl F x = .slice S.next 0 0 s.length s.length 1 (some s.length)) => (aop_indexAddr (cx := C0) (F := F) (S := S') (dst := dst) (ty := ty) (pos := pos) (af := af) (g := gd) (i := 0) (k := .i64) (n := 0) (ix := .const (.int .i64 0)) ((eval_tmp F x).trans a) ud56 zz5 rfl rfl (by omega))
    have u1 : builtinV C0 ⟨(S.h.set S.next (.row (List.replicate s.length (.int .u8 0)) 0 0 false 5)).set S.next (.row (bytA s) 0 0 false 5), S.next + 1⟩ .unsafeString [75, 3] [.ptr S.next 0 0 s.length, .int .i64 s.length] = .val (.str s) ⟨((S.h.set S.next (.row (List.replicate s.length (.int .u8 0)) 0 0 false 5)).set S.next (.row (bytA s) 0 0 false 5)).set S.next (.row (bytA s) 0 0 true 5), S.next + 1⟩ := by
      refine ustr_text ud_p5 ud5 zz5 (by omega) (by omega) g2 rfl ?_ hs
      rw [rd_at, g2, rdO_row, if_pos ⟨Nat.le_refl _, Nat.le_refl _, by omega⟩, List.drop_zero, List.take_of_length_le (by rw [bytA_len]; exact Nat.le_refl _)]
    simp [s0, len_str und9, he, hfit, c1, ix, u1]
    refine ⟨fun id hid => ?_, Nat.le_succ _⟩
    simp only [get_set_ne _ _ (show id ≠ S.next by omega)]
theorem nt54 : Tryd.f71.ntmps = 11 := by kernel_rfl
theorem aop_err2 {F : Fr} {dst : Option Tmp} {ty : TypeId} {pos : String} {af : Array Edge} {gd : Option (Nat × Bool)} : aop C0 F S ⟨dst, .load 49 (.global 2), ty, pos, af, gd⟩ = .val (.iface 137 .top) S := by kernel_rfl
theorem aop_err3 {F : Fr} {dst : Option Tmp} {ty : TypeId} {pos : String} {af : Array Edge} {gd : Option (Nat × Bool)} : aop C0 F S ⟨dst, .load 49 (.global 3), ty, pos, af, gd⟩ = .val (.iface 137 .top) S := by kernel_rfl
theorem bld101 (a b : List Nat) : buildA C0 130 [(0, .str a), (1, .str b), (2, .iface 137 .top)] = some (.agg [.str a, .str b, .iface 137 .top]) := by kernel_rfl
set_option maxRecDepth 20000 in
theorem syntax54 {a b : List Nat} (hb : ∀ c, c ∈ b → c < 256) (hl : b.length ≤ 140737488355328) : CallW C0 71 [.str a, .str b] S fun r T => (∃ n m, r = .ptr n 0 0 m) ∧ Sub S T := by
  obtain ⟨r, T, ⟨rfl, hT⟩, e1⟩ := (clone66 (S := S) hb hl).ex
  refine enterW (pu0 _) (pr0 _ rfl) fn54 rfl ok54 (by simp) fun F hn hs => ?_
  rw [nt54] at hn
  have s0 := hs 0
  have s1 := hs 1
  clear hs
  simp only [List.getElem?_cons_zero, List.getElem?_cons_succ, Option.getD_some] at s0 s1
  simp [s0, s1, hn]
  refine draws [.p, .p, .e [], .p, .p, .e [], .p] (n := 11) (by kernel_rfl) (by simp [hn]) ?_
  simp [s0, s1, e1, ex0, aop_err2, bld101]
  exact hT.trans sub1
theorem nt55 : Tryd.f72.ntmps = 11 := by kernel_rfl
set_option maxRecDepth 20000 in
theorem range55 {a b : List Nat} (hb : ∀ c, c ∈ b → c < 256) (hl : b.length ≤ 140737488355328) : CallW C0 72 [.str a, .str b] S fun r T => (∃ n m, r = .ptr n 0 0 m) ∧ Sub S T := by
  obtain ⟨r, T, ⟨rfl, hT⟩, e1⟩ := (clone66 (S := S) hb hl).ex
  refine enterW (pu0 _) (pr0 _ rfl) fn55 rfl ok55 (by simp) fun F hn hs => ?_
  rw [nt55] at hn
  have s0 := hs 0
  have s1 := hs 1
  clear hs
  simp only [List.getElem?_cons_zero, List.getElem?_cons_succ, Option.getD_some] at s0 s1
  simp [s0, s1, hn]
  refine draws [.p, .p, .e [], .p, .p, .e [], .p] (n := 11) (by kernel_rfl) (by simp [hn]) ?_
  simp [s0, s1, e1, ex0, aop_err3, bld101]
  exact hT.trans sub1
theorem eqE (c : Bool) (k j : Int) : binV C0 .eql 49 c (.iface 112 (.int .i64 k)) (.iface 112 (.int .i64 j)) = some (.bool (decide (k = j))) := by
  have e : eqV C0 49 c (.iface 112 (.int .i64 k)) (.iface 112 (.int .i64 j)) = some (eqI k j) := by kernel_rfl
  rw [eqI_eq] at e
  unfold binV
  simp [e, oddA]
theorem neE (c : Bool) (k j : Int) : binV C0 .neq 49 c (.iface 112 (.int .i64 k)) (.iface 112 (.int .i64 j)) = some (.bool (!decide (k = j))) := by
  have e : eqV C0 49 c (.iface 112 (.int .i64 k)) (.iface 112 (.int .i64 j)) = some (eqI k j) := by kernel_rfl
  rw [eqI_eq] at e
  unfold binV
  simp [e, oddA]
theorem toErr44 {a b : List Nat} (hb : ∀ c, c ∈ b → c < 256) (hl : b.length ≤ 140737488355328) (x y k : Int) (hk : k = 1 ∨ k = 2) : CallW C0 52 [.str a, .str b, .int .i64 x, .int .i64 y, .iface 112 (.int .i64 k)] S fun r T => (∃ n m, r = .iface 113 (.ptr n 0 0 m)) ∧ Sub S T := by
  obtain ⟨r, T, ⟨⟨n, m, rfl⟩, hT⟩, e1⟩ := (syntax54 (S := S) (a := a) hb hl).ex
  obtain ⟨r, T', ⟨⟨n', m', rfl⟩, hT'⟩, e2⟩ := (range55 (S := S) (a := a) hb hl).ex
  refine enterW (pu0 _) (pr0 _ rfl) fn44 rfl ok44 (by simp) fun F hn hs => ?_
  have s0 := hs 0
  have s1 := hs 1
  have s2 := hs 2
  have s3 := hs 3
  have s4 := hs 4
  clear hs
  simp only [List.getElem?_cons_zero, List.getElem?_cons_succ, Option.getD_some] at s0 s1 s2 s3 s4
  rcases hk with rfl | rfl
  · simp [s0, s1, s2, s3, s4, eqE, e1, e2, ex0, hT, hT']
  · simp [s0, s1, s2, s3, s4, eqE, e1, e2, ex0, hT, hT']
theorem nnE : binV C0 .neq 49 true .niface .niface = some (.bool false) := by kernel_rfl
theorem niE (k : Int) : binV C0 .neq 49 true (.iface 112 (.int .i64 k)) .niface = some (.bool true) := by kernel_rfl
theorem ni88 (n m : Nat) : binV C0 .neq 49 true (.iface 113 (.ptr n 0 0 m)) .niface = some (.bool true) := by kernel_rfl
theorem ei88 (n m : Nat) : binV C0 .eql 49 true (.iface 113 (.ptr n 0 0 m)) .niface = some (.bool false) := by kernel_rfl
theorem enE : binV C0 .eql 49 true .niface .niface = some (.bool true) := by kernel_rfl
/-- What ParseInt answers. -/
def intR (r : AV) (o : Option Int) : Prop := match o with | some n => r = .tuple [.int .i64 n, .niface] | none => ∃ (w k : Int), r = .tuple [.int .i64 w, .iface 112 (.int .i64 k)] ∧ (k = 1 ∨ k = 2)
theorem shl63 (c : Bool) (t : TypeId) : binV C0 .shl t c (.int .u64 1) (.int .u64 63) = some (.int .u64 9223372036854775808) := by kernel_rfl
theorem magN_lt {l : List Nat} {u : Nat} (h : magN l = some u) : u < 18446744073709551616 := by
  have key : ∀ (l : List Nat) (acc u : Nat), acc ≤ 18446744073709551615 → parN 18446744073709551615 l acc = some u → u ≤ 18446744073709551615 := by
    intro l
    induction l with
    | nil => intro acc u h e; cases e; exact h
    | cons c l ih =>
      intro acc u h e
      unfold parN at e
      split at e
      · rename_i hc; exact ih _ u hc.2.2 e
      · cases e
  unfold magN at h
  split at h
  · cases h
  · have := key _ _ _ (by omega) h; omega
set_option maxRecDepth 20000 in
theorem parse43 {s : List Nat} (hs : ∀ c, c ∈ s → c < 256) (hl : s.length < 4611686018427387904) : CallW C0 51 [.str s, .int .i64 10, .int .i64 64] S fun r T => Sub S T ∧ intR r (parI s) := by
  refine enterW (pu0 _) (pr0 _ rfl) fn43 rfl ok43 (by simp) fun F hn hs' => ?_
  have s0 := hs' 0
  have s1 := hs' 1
  have s2 := hs' 2
  clear hs'
  simp only [List.getElem?_cons_zero, List.getElem?_cons_succ, Option.getD_some] at s0 s1 s2
  cases s with
  | nil =>
    simp [s0, s1, s2, eqS_eq, Sub.refl, parI, magN, intR]
    exact ⟨0, 2, ⟨rfl, rfl⟩, .inr rfl⟩
  | cons c l =>
    obtain ⟨r, T, ⟨hT, hr⟩, e1⟩ := (parse53 (S := S) hs hl).ex
    obtain ⟨r2, T2, ⟨hT2, hr2⟩, e2⟩ := (parse53 (S := S) (s := l) (fun d hd => hs d (List.mem_cons_of_mem _ hd)) (by simp at hl; omega)).ex
    have ixt := fun (F : Fr) (S' : AS) (dst : Option Tmp) (ty : TypeId) (pos : String) (af : Array Edge) (gd : Option (Nat × Bool)) (x : Tmp) (a : sl F x = .str (c :: l)) => aop_index_text (cx := C0) (F := F) (S := S') (dst := dst) (ty := ty) (pos := pos) (af := af) (gd := gd) (t := 9) (ix := .const (.int .i64 0)) (i := 0) (c := c) ((eval_tmp F x).trans a) rfl rfl rfl sT9 rfl
    have slt := fun (F : Fr) => sliceV_text (cx := C0) (F := F) (t := 9) (s := c :: l) (lo := some (.const (.int .i64 1))) (hi := none) (l := 1) (k := l.length + 1) sT9 rfl rfl (by omega) (Nat.le_refl _)
    have w63 : IntKind.i64.wrap 63 = 63 := rfl
    have v63 : IntKind.u64.wrap 63 = 63 := rfl
    have cvc : IntKind.i64.wrap 9223372036854775808 = -9223372036854775808 := rfl
    by_cases h43 : c = 43
    · subst h43
      have hpi : parI (43 :: l) = (match magN l with | some u => if u < 9223372036854775808 then some (u : Int) else none | none => none) := rfl
      cases hm : magN l with
      | none =>
        rw [hm] at hr2
        obtain ⟨w, k, rfl, hk⟩ := hr2
        rw [hm] at hpi
        rw [hpi]
        rcases hk with ⟨rfl, rfl⟩ | rfl
        · simp [s0, s1, s2, eqS_eq, ixt, slt, ex0, w63, v63, shl63, cvc, nnE, niE, intR, e2, hT2, neE]
          exact ⟨_, 1, ⟨rfl, rfl⟩, .inl rfl⟩
        · simp [s0, s1, s2, eqS_eq, ixt, slt, ex0, w63, v63, shl63, cvc, nnE, niE, intR, e2, hT2, neE]
          exact ⟨_, 2, ⟨rfl, rfl⟩, .inr rfl⟩
      | some u =>
        rw [hm] at hr2
        have hr' : _ = AV.tuple [.int .u64 u, .niface] := hr2
        subst hr'
        have hu := magN_lt hm
        rw [hm] at hpi
        simp only at hpi
        by_cases hq : u < 9223372036854775808
        · rw [if_pos hq] at hpi
          rw [hpi]
          have q1 : ¬ (9223372036854775808 : Int) ≤ u := by omega
          have hx := i64_of hq
          simp [s0, s1, s2, eqS_eq, ixt, slt, ex0, w63, v63, shl63, cvc, nnE, niE, intR, e2, hT2, q1, hx]
        · rw [if_neg hq] at hpi
          rw [hpi]
          have q1 : (9223372036854775808 : Int) ≤ u := by omega
          simp [s0, s1, s2, eqS_eq, ixt, slt, ex0, w63, v63, shl63, cvc, nnE, niE, intR, e2, hT2, q1]
          exact ⟨_, 1, ⟨rfl, rfl⟩, .inl rfl⟩
    · by_cases h45 : c = 45
      · subst h45
        have hpi : parI (45 :: l) = (match magN l with | some u => if u ≤ 9223372036854775808 then some (-(u : Int)) else none | none => none) := rfl
        cases hm : magN l with
        | none =>
          rw [hm] at hr2
          obtain ⟨w, k, rfl, hk⟩ := hr2
          rw [hm] at hpi
          rw [hpi]
          rcases hk with ⟨rfl, rfl⟩ | rfl
          · simp [s0, s1, s2, eqS_eq, ixt, slt, ex0, w63, v63, shl63, cvc, nnE, niE, intR, e2, hT2, neE]
            exact ⟨_, 1, ⟨rfl, rfl⟩, .inl rfl⟩
          · simp [s0, s1, s2, eqS_eq, ixt, slt, ex0, w63, v63, shl63, cvc, nnE, niE, intR, e2, hT2, neE]
            exact ⟨_, 2, ⟨rfl, rfl⟩, .inr rfl⟩
        | some u =>
          rw [hm] at hr2
          have hr' : _ = AV.tuple [.int .u64 u, .niface] := hr2
          subst hr'
          have hu := magN_lt hm
          rw [hm] at hpi
          simp only at hpi
          by_cases hq : u ≤ 9223372036854775808
          · rw [if_pos hq] at hpi
            rw [hpi]
            have q1 : ¬ (9223372036854775808 : Int) < u := by omega
            obtain ⟨x, hx, hx2⟩ : ∃ x, IntKind.i64.wrap (u : Int) = x ∧ IntKind.i64.wrap (-x) = -(u : Int) := by
              refine ⟨_, rfl, ?_⟩
              simp only [IntKind.wrap, IntKind.bits, IntKind.signed]
              simp
              omega
            simp [s0, s1, s2, eqS_eq, ixt, slt, ex0, w63, v63, shl63, cvc, nnE, niE, intR, e2, hT2, q1, hx, hx2]
          · rw [if_neg hq] at hpi
            rw [hpi]
            have q1 : (9223372036854775808 : Int) < u := by omega
            simp [s0, s1, s2, eqS_eq, ixt, slt, ex0, w63, v63, shl63, cvc, nnE, niE, intR, e2, hT2, q1]
            exact ⟨_, 1, ⟨rfl, rfl⟩, .inl rfl⟩
      · have hpi : parI (c :: l) = (match magN (c :: l) with | some u => if u < 9223372036854775808 then some (u : Int) else none | none => none) := by
          unfold parI
          split
          · rename_i e; simp at e; omega
          · rename_i e; simp at e; omega
          · rfl
        have n43 : ¬ (c : Int) = 43 := by omega
        have n45 : ¬ (c : Int) = 45 := by omega
        cases hm : magN (c :: l) with
        | none =>
          rw [hm] at hr
          obtain ⟨w, k, rfl, hk⟩ := hr
          rw [hm] at hpi
          rw [hpi]
          rcases hk with ⟨rfl, rfl⟩ | rfl
          · simp [s0, s1, s2, eqS_eq, ixt, slt, ex0, w63, v63, shl63, cvc, nnE, niE, intR, e1, hT, h43, h45, n43, n45, neE]
            exact ⟨_, 1, ⟨rfl, rfl⟩, .inl rfl⟩
          · simp [s0, s1, s2, eqS_eq, ixt, slt, ex0, w63, v63, shl63, cvc, nnE, niE, intR, e1, hT, h43, h45, n43, n45, neE]
            exact ⟨_, 2, ⟨rfl, rfl⟩, .inr rfl⟩
        | some u =>
          rw [hm] at hr
          have hr' : _ = AV.tuple [.int .u64 u, .niface] := hr
          subst hr'
          have hu := magN_lt hm
          rw [hm] at hpi
          simp only at hpi
          by_cases hq : u < 9223372036854775808
          · rw [if_pos hq] at hpi
            rw [hpi]
            have q1 : ¬ (9223372036854775808 : Int) ≤ u := by omega
            have hx := i64_of hq
            simp [s0, s1, s2, eqS_eq, ixt, slt, ex0, w63, v63, shl63, cvc, nnE, niE, intR, e1, hT, h43, h45, n43, n45, q1, hx]
          · rw [if_neg hq] at hpi
            rw [hpi]
            have q1 : (9223372036854775808 : Int) ≤ u := by omega
            simp [s0, s1, s2, eqS_eq, ixt, slt, ex0, w63, v63, shl63, cvc, nnE, niE, intR, e1, hT, h43, h45, n43, n45, q1]
            exact ⟨_, 1, ⟨rfl, rfl⟩, .inl rfl⟩
theorem parse30 {s : List Nat} (hs : ∀ c, c ∈ s → c < 256) (hl : s.length ≤ 140737488355328) : CallW C0 39 [.str s, .int .i64 10, .int .i64 64] S fun r T => Sub S T ∧ match parI s with | some n => r = .tuple [.int .i64 n, .niface] | none => ∃ (w : Int) (n m : Nat), r = .tuple [.int .i64 w, .iface 113 (.ptr n 0 0 m)] := by
  obtain ⟨r, T, ⟨hT, hr⟩, e1⟩ := (parse43 (S := S) hs (by omega)).ex
  refine enterW (pu0 _) (pr0 _ rfl) fn30 rfl ok30 (by simp) fun F hn hs' => ?_
  have s0 := hs' 0
  have s1 := hs' 1
  have s2 := hs' 2
  clear hs'
  simp only [List.getElem?_cons_zero, List.getElem?_cons_succ, Option.getD_some] at s0 s1 s2
  cases hp : parI s with
  | none =>
    rw [hp] at hr
    obtain ⟨w, k, rfl, hk⟩ := hr
    obtain ⟨r2, T2, ⟨⟨n, m, rfl⟩, hT2⟩, e2⟩ := (toErr44 (S := T) (a := [80, 97, 114, 115, 101, 73, 110, 116]) hs hl 10 64 k hk).ex
    simp [s0, s1, s2, e1, ex0, niE, e2, hT.trans hT2]
  | some n =>
    rw [hp] at hr
    have hr' : r = .tuple [.int .i64 n, .niface] := hr
    subst hr'
    simp [s0, s1, s2, e1, ex0, nnE, hT]
theorem parse45 {a b : Nat} (ha : a < 256) (hb : b < 256) : CallW C0 53 [.str [a, b], .int .i64 16, .int .i64 8] S fun r T => Sub S T ∧ match hex2 a b with | some n => r = .tuple [.int .u64 n, .niface] | none => ∃ (w n m : Nat), r = .tuple [.int .u64 w, .iface 113 (.ptr n 0 0 m)] := by
  have hs : ∀ c, c ∈ [a, b] → c < 256 := fun c hc => by simp at hc; omega
  obtain ⟨r, T, ⟨hT, hr⟩, e1⟩ := (parse53x (S := S) (s := [a, b]) hs (by simp) (by simp)).ex
  rw [parX_two] at hr
  refine enterW (pu0 _) (pr0 _ rfl) fn45 rfl ok45 (by simp) fun F hn hs' => ?_
  have s0 := hs' 0
  have s1 := hs' 1
  have s2 := hs' 2
  clear hs'
  simp only [List.getElem?_cons_zero, List.getElem?_cons_succ, Option.getD_some] at s0 s1 s2
  cases hp : hex2 a b with
  | none =>
    rw [hp] at hr
    obtain ⟨w, k, rfl, hk⟩ := hr
    obtain ⟨r2, T2, ⟨⟨n, m, rfl⟩, hT2⟩, e2⟩ := (toErr44 (S := T) (a := [80, 97, 114, 115, 101, 85, 105, 110, 116]) (b := [a, b]) hs (by simp) 16 8 k hk).ex
    simp [s0, s1, s2, e1, ex0, niE, e2, hT.trans hT2]
    exact ⟨w, rfl⟩
  | some n =>
    rw [hp] at hr
    have hr' : r = .tuple [.int .u64 n, .niface] := hr
    subst hr'
    simp [s0, s1, s2, e1, ex0, nnE, hT]
end
end Go.Proofs.YtpglcebeldgeeaaDoor.val

namespace Go.Proofs.YtpglcebeldgeeaaDoor.val
open Go Go.Am Go.Proofs.YtpglcebeldgeeaaDoor.laid
set_option linter.unusedVariables false
set_option linter.unusedSimpArgs false

/-- A byte more. -/
theorem app_byte {S' : AS} {v : AV} {out : List Nat} (n : Nat) (hg : Gw S' v 1 5 (bytA out)) (hl : out.length < 140737488355328) :
    ∃ v' T, builtinV C0 ⟨S'.h.set S'.next (.row [.int .u8 n] 0 0 false 5), S'.next + 1⟩ .append [43, 43] [v, .slice S'.next 0 0 1 1 1 (some 1)] = .val v' T ∧ Gw T v' 1 5 (bytA (out ++ [n])) ∧ (∀ id, id < S'.next → bnd v ≠ id + 1 → T.h.get id = S'.h.get id) ∧ S'.next ≤ T.next ∧ (bnd v' = bnd v ∨ S'.next < bnd v') := by
  have hold := hg.1.old
  have hx : Sl (⟨S'.h.set S'.next (.row [.int .u8 n] 0 0 false 5), S'.next + 1⟩ : AS) (.slice S'.next 0 0 1 1 1 (some 1)) 1 [.int .u8 n] :=
    ⟨by simp [isSl, capB], by simp [rdS, rd_at], by simp [sLen], by simp [bnd]⟩
  have hgT : Gw (⟨S'.h.set S'.next (.row [.int .u8 n] 0 0 false 5), S'.next + 1⟩ : AS) v 1 5 (bytA out) := hg.agree (fun id e => get_set_ne _ _ (by omega)) (Nat.le_succ _)
  have hlen : sLen v = out.length := by rw [hg.1.len1, bytA_len]
  obtain ⟨v', V, e2, r1, r2, r3, r4, r5, r6, r7⟩ := append_gw (cx := C0) (ts := []) (t := 43) (u := 43) (p := (5, 1, 1)) st56 ud56 rfl hgT hx (by rw [hlen]; simp [fits, nble, sLen_slice]; omega)
  simp only at r1
  rw [bytA_one, bytA_app] at r1
  refine ⟨v', V, e2, r1, fun id h1 h2 => ?_, by have : S'.next + 1 ≤ V.next := r3; omega, ?_⟩
  · rw [r2 id (by show id < S'.next + 1; omega) (fun e => h2 e.symm)]
    exact get_set_ne _ _ (by omega)
  · rcases r6 with r6 | r6
    · exact .inl r6
    · right
      have : S'.next + 1 < bnd v' := r6
      omega
theorem unq_plain {f c d : Nat} {r out : List Nat} (h : c ≠ 92) : unqN (f + 1) (c :: d :: r) out = unqN f (d :: r) (out ++ [c]) := by simp only [unqN, if_neg h]
theorem unq_other {f d : Nat} {r out : List Nat} (h : d ≠ 120 ∨ r.length < 2) : unqN (f + 1) (92 :: d :: r) out = unqN f r (out ++ [d]) := by
  match r, h with
  | [], _ => simp only [unqN, if_true]
  | [a], _ => simp only [unqN, if_true]
  | a :: b :: r, h =>
    have : d ≠ 120 := by
      rcases h with h | h
      · exact h
      · simp only [List.length_cons] at h; omega
    simp only [unqN, if_true, if_neg this]
theorem unq_hex {f a b : Nat} {r out : List Nat} : unqN (f + 1) (92 :: 120 :: a :: b :: r) out = (match hex2 a b with | some n => unqN f r (out ++ [n]) | none => none) := by
  cases h : hex2 a b <;> simp [unqN, h]
theorem nt31 : Tryd.f40.ntmps = 73 := by kernel_rfl
def unqH (S : AS) (s : List Nat) (R : Option (List Nat)) (k : Nat) (F' : Fr) (S' : AS) : Prop :=
  ∃ (i f : Nat) (out : List Nat) (v : AV), Sub S S' ∧ Gw S' v 1 5 (bytA out) ∧ (bnd v = 0 ∨ S.next < bnd v) ∧ (∀ c, c ∈ out → c < 256) ∧ out.length ≤ i ∧ unqN f (s.drop i) out = R ∧ s.length - i ≤ f ∧
    sl F' 0 = .str s ∧ sl F' 4 = v ∧ sl F' 5 = .int .i64 i ∧ F'.n = 73 ∧ i ≤ s.length ∧ k = s.length - i
theorem unqH_mk {S : AS} {s : List Nat} {R : Option (List Nat)} {k : Nat} {F' : Fr} {S' : AS} (i f : Nat) (out : List Nat) (v : AV) (h1 : Sub S S') (h2 : Gw S' v 1 5 (bytA out)) (h3 : bnd v = 0 ∨ S.next < bnd v) (h4 : ∀ c, c ∈ out → c < 256) (h5 : out.length ≤ i) (h6 : unqN f (s.drop i) out = R) (h7 : s.length - i ≤ f)
    (h8 : sl F' 0 = .str s) (h9 : sl F' 4 = v) (h10 : sl F' 5 = .int .i64 i) (h11 : F'.n = 73) (h12 : i ≤ s.length) (h13 : k = s.length - i) : unqH S s R k F' S' := ⟨i, f, out, v, h1, h2, h3, h4, h5, h6, h7, h8, h9, h10, h11, h12, h13⟩
section
variable {S : AS}
set_option maxRecDepth 20000 in
theorem unquote31 {s : List Nat} (hs : ∀ c, c ∈ s → c < 256) (hl : s.length < 140737488355328) : CallW C0 40 [.str s] S fun r T => Sub S T ∧ match unq s with | some x => r = .tuple [.str x, .bool true] | none => r = .tuple [.str [], .bool false] := by
  refine enterW (pu0 _) (pr0 _ rfl) fn31 rfl ok31 (by simp) fun F hn hs' => ?_
  rw [nt31] at hn
  have s0 := hs' 0
  clear hs'
  simp only [List.getElem?_cons_zero, List.getElem?_cons_succ, Option.getD_some] at s0
  by_cases h2 : s.length < 2
  · have h2' : ((s.length : Nat) : Int) < 2 := by omega
    have hu : unq s = none := by
      match s, h2 with
      | [], _ => rfl
      | [c], _ => unfold unq; split <;> simp_all
    rw [hu]
    simp [s0, len_str und9, h2, h2', Sub.refl]
  · have h2' : ¬ ((s.length : Nat) : Int) < 2 := by omega
    obtain ⟨c0, d0, r0, hs0⟩ : ∃ c0 d0 r0, s = c0 :: d0 :: r0 := by
      match s, h2 with
      | c :: d :: r, _ => exact ⟨c, d, r, rfl⟩
      | [], h => simp at h
      | [c], h => simp at h
    have h0 : s[0]? = some c0 := by rw [hs0]; rfl
    have ix0 := fun (F : Fr) (S' : AS) (dst : Option Tmp) (ty : TypeId) (pos : String) (af : Array Edge) (gd : Option (Nat × Bool)) (x : Tmp) (a : sl F x = .str s) => aop_index_text (cx := C0) (F := F) (S := S') (dst := dst) (ty := ty) (pos := pos) (af := af) (gd := gd) (t := 9) (ix := .const (.int .i64 0)) (i := 0) (c := c0) ((eval_tmp F x).trans a) rfl rfl rfl sT9 h0
    by_cases h34 : c0 = 34
    · have hu : unq s = unqN s.length (s.drop 1) [] := by rw [hs0, h34]; rfl
      rw [hu]
      generalize hR : unqN s.length (s.drop 1) [] = R
      have h34' : (c0 : Int) = 34 := by omega
      simp [s0, len_str und9, h2, h2', ix0, h34, h34']
      refine loopP_of (unqH S s R) (s.length - 1) (unqH_mk 1 s.length [] .nils (Sub.refl _) Gw.nil (.inl rfl) (fun c hc => by cases hc) (Nat.zero_le _) hR (by omega) (by simp [s0]) (by simp) (by simp) (by simp [hn]) (by omega) rfl) ?_
      clear s0 hn
      rintro k F' S' hn' ⟨i, f, out, v, hS, hg, hv, hob, hol, hp, hf, s0, s4, s5, hn, hi, hk⟩
      clear hn'
      have w1 : IntKind.i64.wrap ((s.length : Int) - 1) = ((s.length - 1 : Nat) : Int) := by rw [show ((s.length : Int) - 1) = ((s.length - 1 : Nat) : Int) by omega]; exact i64_of (by omega)
      by_cases hi' : i < s.length - 1
      · have hi'' : (i : Int) < ((s.length - 1 : Nat) : Int) := by omega
        have hc : s[i]? = some (s[i]'(by omega)) := List.getElem?_eq_getElem _
        have hd : s[i+1]? = some (s[i+1]'(by omega)) := List.getElem?_eq_getElem _
        have hcb := hs _ (List.getElem_mem (show i < s.length by omega))
        have hdb := hs _ (List.getElem_mem (show i + 1 < s.length by omega))
        have hdr : s.drop i = s[i]'(by omega) :: s[i+1]'(by omega) :: s.drop (i + 2) := by
          rw [List.drop_eq_getElem_cons (show i < s.length by omega), List.drop_eq_getElem_cons (show i + 1 < s.length by omega)]
        have hdr1 : s.drop (i + 1) = s[i+1]'(by omega) :: s.drop (i + 2) := List.drop_eq_getElem_cons (show i + 1 < s.length by omega)
        generalize s[i]'(by omega) = c at hc hcb hdr
        generalize s[i+1]'(by omega) = d at hd hdb hdr hdr1
        obtain ⟨f', rfl⟩ : ∃ f', f = f' + 1 := ⟨f - 1, by omega⟩
        rw [hdr] at hp
        have ixc := fun (F : Fr) (S' : AS) (dst : Option Tmp) (ty : TypeId) (pos : String) (af : Array Edge) (gd : Option (Nat × Bool)) (x y : Tmp) (a : sl F x = .str s) (b : sl F y = .int .i64 (i : Int)) => aop_index_text (cx := C0) (F := F) (S := S') (dst := dst) (ty := ty) (pos := pos) (af := af) (gd := gd) (t := 9) (ix := .tmp y) (i := i) (c := c) ((eval_tmp F x).trans a) rfl ((eval_tmp F y).trans b) natOf_nat sT9 hc
        have ixd := fun (F : Fr) (S' : AS) (dst : Option Tmp) (ty : TypeId) (pos : String) (af : Array Edge) (gd : Option (Nat × Bool)) (x y : Tmp) (a : sl F x = .str s) (b : sl F y = .int .i64 ((i : Int) + 1)) => aop_index_text (cx := C0) (F := F) (S := S') (dst := dst) (ty := ty) (pos := pos) (af := af) (gd := gd) (t := 9) (ix := .tmp y) (i := i + 1) (c := d) ((eval_tmp F x).trans a) rfl ((eval_tmp F y).trans (b.trans (by rw [show ((i : Int) + 1) = ((i + 1 : Nat) : Int) by omega]))) natOf_nat sT9 hd
        have wi1 : IntKind.i64.wrap ((i : Int) + 1) = (i : Int) + 1 := IntWalk.i64_in _ (by omega)
        have wi2 : IntKind.i64.wrap ((i : Int) + 1 + 1) = (i : Int) + 1 + 1 := IntWalk.i64_in _ (by omega)
        have wi3 : IntKind.i64.wrap ((i : Int) + 1 + 2) = (i : Int) + 1 + 2 := IntWalk.i64_in _ (by omega)
        by_cases h92 : c = 92
        · subst h92
          by_cases hoth : d ≠ 120 ∨ (s.drop (i + 2)).length < 2
          · rw [unq_other hoth] at hp
            obtain ⟨v', W, e3, r1, r2, r3, r4⟩ := app_byte d hg (by omega)
            have hW : Sub S W := ⟨fun id hid => by rw [r2 id (by have := hS.next; omega) (fun e => by omega)]; exact hS.h id hid, Nat.le_trans hS.next r3⟩
            have hv' : bnd v' = 0 ∨ S.next < bnd v' := by
              have := hS.next
              rcases r4 with h | h
              · rw [h]; exact hv
              · right; omega
            by_cases h120 : d = 120
            · have hlen : ¬ (i : Int) + 1 + 2 < s.length := by
                rcases hoth with h | h
                · exact absurd h120 h
                · rw [List.length_drop] at h; omega
              have hlen' : (s.length : Int) ≤ (i : Int) + 1 + 2 := by omega
              subst h120
              simp at e3
              simp [s0, s4, s5, len_str und9, w1, hi', hi'', ixc, ixd, e3, r1.1.cells, r1.1.np, wi1, wi2, wi3, hlen, hlen']
              exact ⟨s.length - (i + 2), by omega, unqH_mk (i + 2) f' (out ++ [120]) v' hW r1 hv' (snoc_bytes hob hdb) (by simp; omega) hp (by omega) (by simp [s0]) (by simp) (by simp [wi2]; omega) (by simp [hn]) (by omega) rfl⟩
            · have h120' : ¬ (d : Int) = 120 := by omega
              simp [s0, s4, s5, len_str und9, w1, hi', hi'', ixc, ixd, h120, h120', e3, r1.1.cells, r1.1.np, wi1, wi2]
              exact ⟨s.length - (i + 2), by omega, unqH_mk (i + 2) f' (out ++ [d]) v' hW r1 hv' (snoc_bytes hob hdb) (by simp; omega) hp (by omega) (by simp [s0]) (by simp) (by simp [wi2]; omega) (by simp [hn]) (by omega) rfl⟩
          · have hd120 : d = 120 := by
              by_cases h : d = 120
              · exact h
              · exact absurd (.inl h) hoth
            have hln : ¬ (s.drop (i + 2)).length < 2 := fun h => hoth (.inr h)
            rw [List.length_drop] at hln
            subst hd120
            have hab : s.drop (i + 2) = s[i+2]'(by omega) :: s[i+3]'(by omega) :: s.drop (i + 4) := by
              rw [List.drop_eq_getElem_cons (show i + 2 < s.length by omega), List.drop_eq_getElem_cons (show i + 3 < s.length by omega)]
            have hab1 := hs _ (List.getElem_mem (show i + 2 < s.length by omega))
            have hab2 := hs _ (List.getElem_mem (show i + 3 < s.length by omega))
            generalize s[i+2]'(by omega) = a at hab hab1
            generalize s[i+3]'(by omega) = b at hab hab2
            rw [hab, unq_hex] at hp
            have hlen : (i : Int) + 1 + 2 < s.length := by omega
            have hlen' : ¬ (s.length : Int) ≤ (i : Int) + 1 + 2 := by omega
            have wi4 : IntKind.i64.wrap ((i : Int) + 1 + 3) = (i : Int) + 1 + 3 := IntWalk.i64_in _ (by omega)
            have b1 : ∀ (F : Fr) (x : Tmp) (n : Nat), sl F x = .int .i64 ((i : Int) + 1 + 1) → bound F (some (.tmp x)) n = some (i + 2) := fun F x n h => by
              rw [bound_some, eval_tmp, h, show ((i : Int) + 1 + 1) = ((i + 2 : Nat) : Int) by omega]; exact natOf_nat
            have b2 : ∀ (F : Fr) (x : Tmp) (n : Nat), sl F x = .int .i64 ((i : Int) + 1 + 3) → bound F (some (.tmp x)) n = some (i + 4) := fun F x n h => by
              rw [bound_some, eval_tmp, h, show ((i : Int) + 1 + 3) = ((i + 4 : Nat) : Int) by omega]; exact natOf_nat
            have sv := fun (F : Fr) (x y : Tmp) (h1 : bound F (some (.tmp x)) 0 = some (i + 2)) (h2 : bound F (some (.tmp y)) s.length = some (i + 4)) => (sliceV_text (cx := C0) (t := 9) (s := s) sT9 h1 h2 (by omega) (by omega)).trans (show _ = some (AV.str [a, b]) by rw [hab, show i + 4 - (i + 2) = 2 by omega]; rfl)
            obtain ⟨r, T, ⟨hT, hr⟩, e45⟩ := (parse45 (S := S') hab1 hab2).ex
            have hST := hS.trans hT
            cases hx : hex2 a b with
            | none =>
              rw [hx] at hr hp
              obtain ⟨w, n, m, rfl⟩ := hr
              rw [← hp]
              simp [s0, s4, s5, len_str und9, w1, hi', hi'', ixc, ixd, wi1, wi2, wi3, wi4, hlen, hlen', b1, b2, sv, e45, ex0, ni88, hST]
            | some n =>
              rw [hx] at hr hp
              have hr' : r = .tuple [.int .u64 n, .niface] := hr
              subst hr'
              have hn256 := hex2_lt hx
              have wn := u8_of hn256
              have hgT : Gw T v 1 5 (bytA out) := hg.agree (fun id e => hT.h id (by have := hg.1.old; omega)) hT.next
              obtain ⟨v', W, e3, r1, r2, r3, r4⟩ := app_byte n hgT (by omega)
              have hW : Sub S W := ⟨fun id hid => by rw [r2 id (by have := hST.next; omega) (fun e => by omega)]; exact hST.h id hid, Nat.le_trans hST.next r3⟩
              have hv' : bnd v' = 0 ∨ S.next < bnd v' := by
                have := hST.next
                rcases r4 with h | h
                · rw [h]; exact hv
                · right; omega
              have wi5 : IntKind.i64.wrap ((i : Int) + 1 + 2 + 1) = (i : Int) + 1 + 2 + 1 := IntWalk.i64_in _ (by omega)
              simp [s0, s4, s5, len_str und9, w1, hi', hi'', ixc, ixd, wi1, wi2, wi3, wi4, hlen, hlen', b1, b2, sv, e45, ex0, nnE, wn, e3, r1.1.cells, r1.1.np, wi5]
              exact ⟨s.length - (i + 4), by omega, unqH_mk (i + 4) f' (out ++ [n]) v' hW r1 hv' (snoc_bytes hob hn256) (by simp; omega) hp (by omega) (by simp [s0]) (by simp) (by simp [wi5]; omega) (by simp [hn]) (by omega) rfl⟩
        · rw [unq_plain h92, ← hdr1] at hp
          have h92' : ¬ (c : Int) = 92 := by omega
          obtain ⟨v', W, e3, r1, r2, r3, r4⟩ := app_byte c hg (by omega)
          have hW : Sub S W := ⟨fun id hid => by rw [r2 id (by have := hS.next; omega) (fun e => by omega)]; exact hS.h id hid, Nat.le_trans hS.next r3⟩
          have hv' : bnd v' = 0 ∨ S.next < bnd v' := by
            have := hS.next
            rcases r4 with h | h
            · rw [h]; exact hv
            · right; omega
          simp [s0, s4, s5, len_str und9, w1, hi', hi'', ixc, h92, h92', e3, r1.1.cells, r1.1.np, wi1]
          exact ⟨s.length - (i + 1), by omega, unqH_mk (i + 1) f' (out ++ [c]) v' hW r1 hv' (snoc_bytes hob hcb) (by simp; omega) hp (by omega) (by simp [s0]) (by simp) (by simp [wi1]) (by simp [hn]) (by omega) rfl⟩
      · have hi'' : ¬ (i : Int) < ((s.length - 1 : Nat) : Int) := by omega
        rw [unqN_short (by rw [List.length_drop]; omega)] at hp
        rw [← hp]
        have tx := fun (F : Fr) (dst : Option Tmp) (ty : TypeId) (pos : String) (af : Array Edge) (gd : Option (Nat × Bool)) (x : Tmp) (a : sl F x = v) => aop_text (cx := C0) (F := F) (S := S') (dst := dst) (ty := ty) (pos := pos) (af := af) (gd := gd) (a := 43) (b := 9) hg.1 hob ((eval_tmp F x).trans a) bE56 sT9
        simp [s0, s4, s5, len_str und9, w1, hi', hi'', tx, hS, okW_of hg.1.ok]
    · have hu : unq s = none := by
        rw [hs0]; unfold unq; split
        · rename_i e; simp at e; omega
        · rfl
      rw [hu]
      have h34' : ¬ (c0 : Int) = 34 := by omega
      simp [s0, len_str und9, h2, h2', ix0, h34, h34', Sub.refl]
end
end Go.Proofs.YtpglcebeldgeeaaDoor.val

namespace Go.Proofs.YtpglcebeldgeeaaDoor.val
open Go Go.Am Go.Proofs.YtpglcebeldgeeaaDoor.laid
set_option linter.unusedVariables false
set_option linter.unusedSimpArgs false

/-- A builder at b that holds bytes. -/
structure BldAt (S : AS) (b : Nat) (v : AV) (out : List Nat) : Prop where
  lt : b < S.next
  at_ : ∃ p, S.h.get b = some (.row [p, v] 0 0 false 45) ∧ (p = .nilp ∨ p = .ptr b 0 0 2)
  gw : Gw S v 1 5 (bytA out)
  self : bnd v ≠ b + 1
theorem ud67 : und C0 42 = some (.pointer 45) := by kernel_rfl
theorem ud96 : und C0 89 = some .unsafePointer := by kernel_rfl
theorem zz69 : szOf C0 45 = some 2 := by kernel_rfl
section
variable {S : AS}
theorem aop_un {b : Nat} {p v : AV} (h : S.h.get b = some (.row [p, v] 0 0 false 45)) {F : Fr} {dst : Option Tmp} {ty : TypeId} {pos : String} {af : Array Edge} {gd : Option (Nat × Bool)} {x : Tmp} (hx : sl F x = .ptr b 0 0 2) :
    aop C0 F S ⟨dst, .convert 42 89 (.tmp x), ty, pos, af, gd⟩ = .val (.ptr b 0 0 2) S := by
  simp only [aop, ud67, ud96, eval_tmp, hx, zz69, h]
  rfl
theorem aop_nu {b : Nat} {p v : AV} (h : S.h.get b = some (.row [p, v] 0 0 false 45)) {F : Fr} {dst : Option Tmp} {ty : TypeId} {pos : String} {af : Array Edge} {gd : Option (Nat × Bool)} {x : Tmp} (hx : sl F x = .ptr b 0 0 2) :
    aop C0 F S ⟨dst, .convert 89 42 (.tmp x), ty, pos, af, gd⟩ = .val (.ptr b 0 0 2) S := by
  simp only [aop, ud67, ud96, eval_tmp, hx, zz69, h, nbeq, nble]
  rfl
theorem ptr_eq (c : Bool) (b : Nat) : binV C0 .neq 42 c (.ptr b 0 0 2) (.ptr b 0 0 2) = some (.bool false) := by
  have hb : Nat.beq b b = true := by rw [nbeq]; simp
  have e : eqV C0 42 c (.ptr b 0 0 2) (.ptr b 0 0 2) = cond (Nat.beq b b && Nat.beq 0 0 && Nat.beq 0 0) (some true) none := by kernel_rfl
  rw [hb] at e
  have e' : eqV C0 42 c (.ptr b 0 0 2) (.ptr b 0 0 2) = some true := e
  unfold binV
  simp [e']
theorem check52 {b : Nat} {v : AV} {out : List Nat} (h : BldAt S b v out) : CallW C0 35 [.ptr b 0 0 2] S fun r T => r = .tuple [] ∧ T.h.get b = some (.row [.ptr b 0 0 2, v] 0 0 false 45) ∧ (∀ id, id ≠ b → T.h.get id = S.h.get id) ∧ T.next = S.next := by
  obtain ⟨p, hp, hpp⟩ := h.at_
  refine enterW (pu0 _) (pr0 _ rfl) fn52 rfl ok52 (by simp) fun F hn hs => ?_
  have s0 := hs 0
  clear hs
  simp only [List.getElem?_cons_zero, Option.getD_some] at s0
  rcases hpp with rfl | rfl
  · have u1 := fun (F : Fr) (dst : Option Tmp) (ty : TypeId) (pos : String) (af : Array Edge) (gd : Option (Nat × Bool)) (x : Tmp) (a : sl F x = .ptr b 0 0 2) => aop_un (F := F) (dst := dst) (ty := ty) (pos := pos) (af := af) (gd := gd) hp a
    have u2 := fun (F : Fr) (dst : Option Tmp) (ty : TypeId) (pos : String) (af : Array Edge) (gd : Option (Nat × Bool)) (x : Tmp) (a : sl F x = .ptr b 0 0 2) => aop_nu (F := F) (dst := dst) (ty := ty) (pos := pos) (af := af) (gd := gd) hp a
    have xi : extV .ident [.ptr b 0 0 2] = some (.ptr b 0 0 2) := rfl
    simp [s0, hp, u1, u2, ex63, xi]
    exact fun id h1 h2 => absurd h2 h1
  · simp [s0, hp, ptr_eq]
/-- WriteByte. -/
theorem write41 {b : Nat} {v : AV} {out : List Nat} (h : BldAt S b v out) (n : Nat) (hl : out.length < 140737488355328) : CallW C0 48 [.ptr b 0 0 2, .int .u8 n] S fun r T => r = .niface ∧ ∃ v', BldAt T b v' (out ++ [n]) ∧ (∀ id, id < S.next → id ≠ b → bnd v ≠ id + 1 → T.h.get id = S.h.get id) ∧ S.next ≤ T.next ∧ (bnd v' = bnd v ∨ S.next < bnd v') := by
  obtain ⟨r, S1, ⟨rfl, g1, g2, g3⟩, e1⟩ := (check52 h).ex
  have hself := h.self
  have hlt := h.lt
  have hold := h.gw.1.old
  have hg1 : Gw S1 v 1 5 (bytA out) := h.gw.agree (fun id e => g2 id (by omega)) (by omega)
  obtain ⟨v', W, e3, r1, r2, r3, r4⟩ := app_byte n hg1 hl
  have gW : W.h.get b = some (.row [.ptr b 0 0 2, v] 0 0 false 45) := by rw [r2 b (by omega) hself]; exact g1
  have vok := h.gw.1.ok
  refine enterW (pu0 _) (pr0 _ rfl) fn41 rfl ok41 (by simp) fun F hn hs => ?_
  have s0 := hs 0
  have s1 := hs 1
  clear hs
  simp only [List.getElem?_cons_zero, List.getElem?_cons_succ, Option.getD_some] at s0 s1
  have hs1 : S1.next = S.next := g3
  simp [s0, s1, e1, ex0, g1, vok, e3, gW, r1.1.cells, r1.1.np]
  refine ⟨v', ⟨by show b < W.next; omega, ⟨_, get_set_same _ _ _, .inr rfl⟩, r1.agree (fun id e => get_set_ne _ _ (by omega)) (Nat.le_refl _), by omega⟩, fun id h1 h2 h3 => ?_, by omega, by omega⟩
  rw [if_neg h2, r2 id (by omega) h3, g2 id h2]
theorem app_str {S' : AS} {v : AV} {out : List Nat} (t : List Nat) (hg : Gw S' v 1 5 (bytA out)) (hl : out.length + t.length ≤ 140737488355328) :
    ∃ v' T, builtinV C0 S' .append [43, 9] [v, .str t] = .val v' T ∧ Gw T v' 1 5 (bytA (out ++ t)) ∧ (∀ id, id < S'.next → bnd v ≠ id + 1 → T.h.get id = S'.h.get id) ∧ S'.next ≤ T.next ∧ (bnd v' = bnd v ∨ S'.next < bnd v') := by
  have hlen : sLen v = out.length := by rw [hg.1.len1, bytA_len]
  have ht : taken S' 1 (.str t) = some (t.length, bytA t) := by
    show cond (Nat.beq 1 1) (some (t.length, mapL _ t)) none = _
    rw [mapL_bytA]; rfl
  obtain ⟨v', V, e2, r1, r2, r3, r4, r5, r6, r7⟩ := append_gwt (cx := C0) (ts := []) (t := 43) (u := 9) (p := (5, 1, 1)) (nx := t.length) st56 und9 rfl hg ht (by rw [bytA_len]; show t.length = t.length * 1; omega) (by rw [hlen]; simp [fits, nble]; omega)
  simp only at r1
  rw [bytA_app] at r1
  exact ⟨v', V, e2, r1, fun id h1 h2 => r2 id h1 (fun e => h2 e.symm), r3, r6⟩
/-- WriteString. -/
theorem write40 {b : Nat} {v : AV} {out : List Nat} (h : BldAt S b v out) (t : List Nat) (hl : out.length + t.length ≤ 140737488355328) : CallW C0 15 [.ptr b 0 0 2, .str t] S fun r T => r = .tuple [.int .i64 t.length, .niface] ∧ ∃ v', BldAt T b v' (out ++ t) ∧ (∀ id, id < S.next → id ≠ b → bnd v ≠ id + 1 → T.h.get id = S.h.get id) ∧ S.next ≤ T.next ∧ (bnd v' = bnd v ∨ S.next < bnd v') := by
  obtain ⟨r, S1, ⟨rfl, g1, g2, g3⟩, e1⟩ := (check52 h).ex
  have hself := h.self
  have hlt := h.lt
  have hold := h.gw.1.old
  have hg1 : Gw S1 v 1 5 (bytA out) := h.gw.agree (fun id e => g2 id (by omega)) (by omega)
  obtain ⟨v', W, e3, r1, r2, r3, r4⟩ := app_str t hg1 hl
  have gW : W.h.get b = some (.row [.ptr b 0 0 2, v] 0 0 false 45) := by rw [r2 b (by omega) hself]; exact g1
  have vok := h.gw.1.ok
  refine enterW (pu0 _) (pr0 _ rfl) fn40 rfl ok40 (by simp) fun F hn hs => ?_
  have s0 := hs 0
  have s1 := hs 1
  clear hs
  simp only [List.getElem?_cons_zero, List.getElem?_cons_succ, Option.getD_some] at s0 s1
  have hs1 : S1.next = S.next := g3
  simp [s0, s1, e1, ex0, g1, vok, e3, gW, r1.1.cells, r1.1.np, len_str und9]
  refine ⟨v', ⟨by show b < W.next; omega, ⟨_, get_set_same _ _ _, .inr rfl⟩, r1.agree (fun id e => get_set_ne _ _ (by omega)) (Nat.le_refl _), by omega⟩, fun id h1 h2 h3 => ?_, by omega, by omega⟩
  rw [if_neg h2, r2 id (by omega) h3, g2 id h2]
end
end Go.Proofs.YtpglcebeldgeeaaDoor.val

namespace Go.Proofs.YtpglcebeldgeeaaDoor.val
open Go Go.Am Go.Proofs.YtpglcebeldgeeaaDoor.laid
set_option linter.unusedVariables false
set_option linter.unusedSimpArgs false

theorem hexL_at : ∀ i : Fin 16, [48, 49, 50, 51, 52, 53, 54, 55, 56, 57, 97, 98, 99, 100, 101, 102][i.val]? = some (hexD i.val) := by decide +kernel
theorem and15 {c : Nat} (hc : c < 256) (t : TypeId) (b : Bool) : binV C0 .and t b (.int .u8 c) (.int .u8 15) = some (.int .u8 ((c % 16 : Nat) : Int)) := by
  show some (cond (Nat.blt c (half .u8) && Nat.blt 15 (half .u8)) (forceN (Nat.land c 15) fun n => AV.int .u8 (.ofNat n)) _) = _
  have e1 : Nat.blt c (half .u8) = true := by rw [nblt]; simp [half, IntKind.bits, hc]
  have e2 : Nat.blt 15 (half .u8) = true := rfl
  have e3 : Nat.land c 15 = c % 16 := Nat.and_two_pow_sub_one_eq_mod c 4
  rw [e1, e2, e3]
  simp [forceN_eq]
/-- What a builder's writers leave. -/
def Wrote (S : AS) (b : Nat) (v : AV) (out : List Nat) (T : AS) : Prop := ∃ v', BldAt T b v' out ∧ (∀ id, id < S.next → id ≠ b → bnd v ≠ id + 1 → T.h.get id = S.h.get id) ∧ S.next ≤ T.next ∧ (bnd v' = bnd v ∨ S.next < bnd v')
theorem Wrote.trans {R S T : AS} {b : Nat} {v v' : AV} {out : List Nat} (k1 : ∀ id, id < R.next → id ≠ b → bnd v ≠ id + 1 → S.h.get id = R.h.get id) (k2 : R.next ≤ S.next) (k3 : bnd v' = bnd v ∨ R.next < bnd v') (h : Wrote S b v' out T) : Wrote R b v out T := by
  obtain ⟨w, a1, a2, a3, a4⟩ := h
  refine ⟨w, a1, fun id h1 h2 h3 => ?_, Nat.le_trans k2 a3, by omega⟩
  rw [a2 id (by omega) h2 (by omega), k1 id h1 h2 h3]
theorem nt39 : Tryd.f47.ntmps = 31 := by kernel_rfl
section
variable {S : AS}
set_option maxRecDepth 20000 in
theorem lay39 {b : Nat} {v : AV} {out : List Nat} (h : BldAt S b v out) {c : Nat} (hc : c < 256) (hl : out.length + 4 < 140737488355328) : CallW C0 47 [.int .u8 c, .ptr b 0 0 2] S fun r T => r = .tuple [] ∧ Wrote S b v (out ++ q1 c) T := by
  refine enterW (pu0 _) (pr0 _ rfl) fn39 rfl ok39 (by simp) fun F hn hs => ?_
  have s0 := hs 0
  have s1 := hs 1
  clear hs
  simp only [List.getElem?_cons_zero, List.getElem?_cons_succ, Option.getD_some] at s0 s1
  unfold q1
  by_cases h1 : c < 32 ∨ 126 < c
  · rw [if_pos h1]
    obtain ⟨r, S1, ⟨rfl, v1, b1, k1, n1, m1⟩, e1⟩ := (write40 h [92, 120] (by simp; omega)).ex
    obtain ⟨r, S2, ⟨rfl, v2, b2, k2, n2, m2⟩, e2⟩ := (write41 b1 (hexD (c / 16)) (by simp; omega)).ex
    obtain ⟨r, S3, ⟨rfl, v3, b3, k3, n3, m3⟩, e3⟩ := (write41 b2 (hexD (c % 16)) (by simp; omega)).ex
    have fin : Wrote S b v (out ++ [92, 120, hexD (c / 16), hexD (c % 16)]) S3 := by
      refine Wrote.trans k1 n1 m1 (Wrote.trans k2 n2 m2 ⟨v3, ?_, k3, n3, m3⟩)
      simpa using b3
    have r4 : ∀ t cc, binV C0 .shr t cc (.int .u8 c) (.int .u64 4) = some (.int .u8 ((c / 16 : Nat) : Int)) := fun t cc => shr_nat .u8 c 4 (by decide) t cc
    have a15 := fun t cc => and15 hc t cc
    have q1' := hexL_at ⟨c / 16, by omega⟩
    have q2' := hexL_at ⟨c % 16, by omega⟩
    simp only at q1' q2'
    generalize hexD (c / 16) = x1 at e2 fin q1'
    generalize hexD (c % 16) = x2 at e3 fin q2'
    generalize c / 16 = y1 at r4 q1'
    generalize c % 16 = y2 at a15 q2'
    have i1 := fun (F : Fr) (S' : AS) (dst : Option Tmp) (ty : TypeId) (pos : String) (af : Array Edge) (gd : Option (Nat × Bool)) (x : Operand) (y : Tmp) (a : eval F x = .str [48, 49, 50, 51, 52, 53, 54, 55, 56, 57, 97, 98, 99, 100, 101, 102]) (b : sl F y = .int .u8 (y1 : Int)) => aop_index_text (cx := C0) (F := F) (S := S') (dst := dst) (ty := ty) (pos := pos) (af := af) (gd := gd) (t := 9) (ix := .tmp y) (i := y1) (c := x1) a rfl ((eval_tmp F y).trans b) natOf_nat sT9 q1'
    have i2 := fun (F : Fr) (S' : AS) (dst : Option Tmp) (ty : TypeId) (pos : String) (af : Array Edge) (gd : Option (Nat × Bool)) (x : Operand) (y : Tmp) (a : eval F x = .str [48, 49, 50, 51, 52, 53, 54, 55, 56, 57, 97, 98, 99, 100, 101, 102]) (b : sl F y = .int .u8 (y2 : Int)) => aop_index_text (cx := C0) (F := F) (S := S') (dst := dst) (ty := ty) (pos := pos) (af := af) (gd := gd) (t := 9) (ix := .tmp y) (i := y2) (c := x2) a rfl ((eval_tmp F y).trans b) natOf_nat sT9 q2'
    by_cases h32 : (c : Int) < 32
    · have h32' : c < 32 := by omega
      simp [s0, s1, h32, h32', e1, ex0, r4, i1, i2, a15, e2, e3, fin]
    · have h32' : ¬ c < 32 := by omega
      have h126 : (126 : Int) < c := by omega
      have h126' : 126 < c := by omega
      simp [s0, s1, h32, h32', h126, h126', e1, ex0, r4, i1, i2, a15, e2, e3, fin]
  · rw [if_neg h1]
    have h32 : ¬ (c : Int) < 32 := by omega
    have h126 : ¬ (126 : Int) < c := by omega
    have h32' : ¬ c < 32 := by omega
    have h126' : ¬ 126 < c := by omega
    by_cases h2 : c = 34 ∨ c = 92
    · rw [if_pos h2]
      obtain ⟨r, S1, ⟨rfl, v1, b1, k1, n1, m1⟩, e1⟩ := (write41 h 92 (by omega)).ex
      obtain ⟨r, S2, ⟨rfl, v2, b2, k2, n2, m2⟩, e2⟩ := (write41 b1 c (by simp; omega)).ex
      have fin : Wrote S b v (out ++ [92, c]) S2 := by
        refine Wrote.trans k1 n1 m1 ⟨v2, ?_, k2, n2, m2⟩
        simpa using b2
      simp at e1
      rcases h2 with rfl | rfl
      · simp at e2
        simp [s0, s1, e1, e2, ex0, fin]
      · simp at e2
        simp [s0, s1, e1, e2, ex0, fin]
    · rw [if_neg h2]
      have h34 : ¬ (c : Int) = 34 := by omega
      have h92 : ¬ (c : Int) = 92 := by omega
      have h34' : ¬ c = 34 := by omega
      have h92' : ¬ c = 92 := by omega
      obtain ⟨r, S1, ⟨rfl, v1, b1, k1, n1, m1⟩, e1⟩ := (write41 h c (by omega)).ex
      have fin : Wrote S b v (out ++ [c]) S1 := ⟨v1, b1, k1, n1, m1⟩
      simp [s0, s1, h32, h126, h32', h126', h34, h92, h34', h92', e1, ex0, fin]
theorem nt42 : Tryd.f16.ntmps = 14 := by kernel_rfl
theorem ud_86 : und C0 75 = some (.pointer 5) := by kernel_rfl
set_option maxRecDepth 20000 in
/-- String, of a builder that is not empty. -/
theorem string42 {b : Nat} {v : AV} {out : List Nat} (h : BldAt S b v out) (hb : ∀ c, c ∈ out → c < 256) (hn0 : out ≠ []) (hl : out.length ≤ 140737488355328) : CallW C0 16 [.ptr b 0 0 2] S fun r T => r = .str out ∧ (∀ id, bnd v ≠ id + 1 → T.h.get id = S.h.get id) ∧ T.next = S.next := by
  obtain ⟨p, hp, _⟩ := h.at_
  have hgw := h.gw
  obtain ⟨hsl, hcs⟩ := hgw
  have hlen := hsl.len
  rw [bytA_len, Nat.mul_one] at hlen
  rcases hcs with rfl | ⟨id, g, off, n, lim, cap, rfl, _, hlt, cells, low, top, hrow, hlow, htop⟩
  · exact absurd (List.length_eq_zero_iff.1 (by rw [hlen]; rfl)) hn0
  · simp only [sLen] at hlen
    have hn1 : 0 < n := by have := List.length_pos_iff.2 hn0; omega
    have hrd : rd S id g off n lim = some (bytA out) := by
      have := hsl.rd
      cases n with
      | zero => omega
      | succ m => simpa [rdS] using this
    have hself := h.self
    have hb2 : b ≠ id := fun e => hself (by simp [bnd, e])
    have u1 := ustr_text (cx := C0) (S := S) (t := 75) (ts := [3]) (k := .i64) ud_86 ud5 zz5 hn1 (by omega) hrow rfl hrd hb
    have u0 : builtinV C0 S .unsafeSliceData [43] [.slice id g off n lim 1 cap] = .val (.ptr id g off lim) S := by
      show cond (Nat.blt 0 n) (AR.val (.ptr id g off lim) S) (.err 14) = _
      rw [nblt]; simp [hn1]
    have vok := hsl.ok
    have u3 := hsl.sl
    refine enterW (pu0 _) (pr0 _ rfl) fn42 rfl ok42 (by simp) fun F hn hs => ?_
    rw [nt42] at hn
    have s0 := hs 0
    clear hs
    simp only [List.getElem?_cons_zero, Option.getD_some] at s0
    simp [s0, hn]
    refine draws [.p, .p, .p, .r 0 0, .e [], .p, .p, .p, .r 1 0, .r 1 0, .e [], .p] (n := 14) (by kernel_rfl) (by simp [hn]) ?_
    simp [s0, hp, vok, u0, u1, hb2, len_slice ud56]
    intro id1 h1 h2
    exact absurd (by simp [bnd, h2]) h1
theorem q1_le (c : Nat) : (q1 c).length ≤ 4 := by
  unfold q1
  split
  · simp
  · split <;> simp
theorem flat_le (s : List Nat) : (s.flatMap q1).length ≤ 4 * s.length := by
  induction s with
  | nil => simp
  | cons c s ih => rw [List.flatMap_cons, List.length_append, List.length_cons]; have := q1_le c; omega
theorem hexD_lt {d : Nat} (h : d < 16) : hexD d < 256 := by unfold hexD; split <;> omega
theorem q1_bytes {c : Nat} (hc : c < 256) : ∀ x, x ∈ q1 c → x < 256 := by
  intro x hx
  have a1 := hexD_lt (d := c / 16) (by omega)
  have a2 := hexD_lt (d := c % 16) (by omega)
  unfold q1 at hx
  split at hx
  · simp at hx; omega
  · split at hx
    · simp at hx; omega
    · simp at hx; omega
theorem flat_bytes {s : List Nat} (hs : ∀ c, c ∈ s → c < 256) : ∀ x, x ∈ s.flatMap q1 → x < 256 := fun x hx => by
  obtain ⟨c, hc, hx⟩ := List.mem_flatMap.1 hx
  exact q1_bytes (hs c hc) x hx
theorem nt28 : Tryd.f34.ntmps = 21 := by kernel_rfl
def quoH (S : AS) (s : List Nat) (k : Nat) (F' : Fr) (S' : AS) : Prop :=
  ∃ (i : Nat) (v : AV), BldAt S' S.next v (34 :: (s.take i).flatMap q1) ∧ Sub S S' ∧ (bnd v = 0 ∨ S.next < bnd v) ∧ sl F' 0 = .str s ∧ sl F' 3 = .ptr S.next 0 0 2 ∧ sl F' 4 = .func (.func 47) [] [.ptr S.next 0 0 2] ∧ sl F' 9 = .int .i64 s.length ∧ sl F' 10 = .int .i64 i ∧ F'.n = 21 ∧ i ≤ s.length ∧ k = s.length - i
theorem quoH_mk {S : AS} {s : List Nat} {k : Nat} {F' : Fr} {S' : AS} (i : Nat) (v : AV) (h1 : BldAt S' S.next v (34 :: (s.take i).flatMap q1)) (h2 : Sub S S') (h3 : bnd v = 0 ∨ S.next < bnd v) (h4 : sl F' 0 = .str s) (h5 : sl F' 3 = .ptr S.next 0 0 2) (h6 : sl F' 4 = .func (.func 47) [] [.ptr S.next 0 0 2]) (h7 : sl F' 9 = .int .i64 s.length) (h8 : sl F' 10 = .int .i64 i) (h9 : F'.n = 21) (h10 : i ≤ s.length) (h11 : k = s.length - i) : quoH S s k F' S' :=
  ⟨i, v, h1, h2, h3, h4, h5, h6, h7, h8, h9, h10, h11⟩
set_option maxRecDepth 20000 in
theorem quote28 {s : List Nat} (hs : ∀ c, c ∈ s → c < 256) (hl : s.length ≤ 1048576) : CallW C0 34 [.str s] S fun r T => r = .str (quoteN s) ∧ Sub S T := by
  have hA : Sub S ⟨S.h.set S.next (.row [.nilp, .nils] 0 0 false 45), S.next + 1⟩ := sub1
  have h0 : BldAt ⟨S.h.set S.next (.row [.nilp, .nils] 0 0 false 45), S.next + 1⟩ S.next .nils [] := ⟨Nat.lt_succ_self _, ⟨_, get_set_same _ _ _, .inl rfl⟩, Gw.nil, by simp [bnd]⟩
  obtain ⟨r, S1, ⟨rfl, v1, b1, k1, n1, m1⟩, e1⟩ := (write41 h0 34 (by simp)).ex
  have hS1 : Sub S S1 := ⟨fun id hid => (k1 id (by show id < S.next + 1; omega) (by omega) (by simp [bnd])).trans (hA.h id hid), Nat.le_trans hA.next n1⟩
  refine enterW (pu0 _) (pr0 _ rfl) fn28 rfl ok28 (by simp) fun F hn hs' => ?_
  rw [nt28] at hn
  have s0 := hs' 0
  clear hs'
  simp only [List.getElem?_cons_zero, Option.getD_some] at s0
  simp at e1
  simp [s0, e1, ex0, len_str und9]
  refine loopP_of (quoH S s) s.length (quoH_mk 0 v1 (by simpa using b1) hS1 (by
    rcases m1 with h | h
    · left; rw [h]; rfl
    · right; have h : S.next + 1 < bnd v1 := h; omega) (by simp [s0]) (by simp) (by simp) (by simp) (by simp) (by simp [hn]) (Nat.zero_le _) rfl) ?_
  clear s0 hn e1 hS1 m1 n1 k1 b1
  rintro k F' S' hn' ⟨i, v, hB, hS, hv, s0, s3, s4, s9, s10, hn, hi, hk⟩
  clear hn'
  have hfl := flat_le (s.take i)
  have htl : (s.take i).length ≤ s.length := List.length_take_le' _ _
  have hSn := hS.next
  by_cases hi' : i < s.length
  · have hc : s[i]? = some (s[i]'hi') := List.getElem?_eq_getElem _
    have hcb := hs _ (List.getElem_mem hi')
    have htk : s.take (i + 1) = s.take i ++ [s[i]'hi'] := List.take_succ_eq_append_getElem hi'
    generalize s[i]'hi' = c at hc hcb htk
    obtain ⟨r, T, ⟨rfl, w, c1, c2, c3, c4⟩, e2⟩ := (lay39 hB hcb (by simp only [List.length_cons]; omega)).ex
    have hw := IntWalk.i64_in ((i : Int) + 1) (by omega)
    have ixc := fun (F : Fr) (S' : AS) (dst : Option Tmp) (ty : TypeId) (pos : String) (af : Array Edge) (gd : Option (Nat × Bool)) (x y : Tmp) (a : sl F x = .str s) (b : sl F y = .int .i64 (i : Int)) => aop_index_text (cx := C0) (F := F) (S := S') (dst := dst) (ty := ty) (pos := pos) (af := af) (gd := gd) (t := 9) (ix := .tmp y) (i := i) (c := c) ((eval_tmp F x).trans a) rfl ((eval_tmp F y).trans b) natOf_nat sT9 hc
    simp [s0, s3, s4, s9, s10, hi', ixc, e2, ex0, hw]
    exact ⟨s.length - (i + 1), by omega, quoH_mk (i + 1) w (by rw [htk, List.flatMap_append]; simpa using c1) ⟨fun id hid => (c2 id (by omega) (by omega) (by omega)).trans (hS.h id hid), by omega⟩ (by omega) (by simp [s0]) (by simp [s3]) (by simp [s4]) (by simp [s9]) (by simp) (by simp [hn]) hi' rfl⟩
  · obtain rfl : i = s.length := by omega
    rw [List.take_length] at hB hfl
    obtain ⟨r, T, ⟨rfl, w, c1, c2, c3, c4⟩, e2⟩ := (write41 hB 34 (by simp only [List.length_cons]; omega)).ex
    have hbb : ∀ c, c ∈ 34 :: s.flatMap q1 ++ [34] → c < 256 := fun c hc => by
      simp at hc
      rcases hc with h | h | h
      · omega
      · obtain ⟨d, hd, hx⟩ := h
        exact q1_bytes (hs d hd) c hx
      · omega
    obtain ⟨r, T2, ⟨rfl, d1, d2⟩, e3⟩ := (string42 c1 hbb (by simp) (by simp only [List.length_cons, List.length_append, List.length_nil]; omega)).ex
    simp at e2
    have hT2 : Sub S T2 := ⟨fun id hid => (d1 id (by omega)).trans ((c2 id (by omega) (by omega) (by omega)).trans (hS.h id hid)), by omega⟩
    simp [s0, s3, s4, s9, s10, e2, e3, ex0]
    exact ⟨by simp [quoteN], hT2⟩
end
end Go.Proofs.YtpglcebeldgeeaaDoor.val

namespace Go.Proofs.YtpglcebeldgeeaaDoor.val
set_option linter.unusedVariables false
set_option linter.unusedSimpArgs false

/-- What the stores keep: the places below nd are still to be filled, v is what is left of u; the digits stand from off on, nd0 of them. -/
structure FmtI (c0 : List Nat) (off nd0 u nd v : Nat) (c : List Nat) : Prop where
  len : c.length = c0.length
  room : off + nd0 ≤ c0.length
  le : nd ≤ nd0
  rest : v = u / 10 ^ (nd0 - nd)
  small : v < 10 ^ nd
  done : ∀ t, nd ≤ t → t < nd0 → c[off + t]? = some (48 + u / 10 ^ (nd0 - 1 - t) % 10)
  ahead : ∀ t, t < off → c[t]? = c0[t]?
theorem FmtI.start (c0 : List Nat) {off nd0 u : Nat} (h : off + nd0 ≤ c0.length) (hu : u < 10 ^ nd0) : FmtI c0 off nd0 u nd0 u c0 :=
  ⟨rfl, h, Nat.le_refl _, by simp, hu, fun t h1 h2 => by omega, fun _ _ => rfl⟩
theorem FmtI.step2 {c0 c : List Nat} {off nd0 u nd v : Nat} (h : FmtI c0 off nd0 u nd v c) (h2 : 2 ≤ nd) :
    FmtI c0 off nd0 u (nd - 2) (v / 100) ((c.set (off + (nd - 1)) (48 + v % 100 % 10)).set (off + (nd - 2)) (48 + v % 100 / 10)) := by
  have hle := h.le
  have hr := h.room
  have hlen := h.len
  refine ⟨by simp [h.len], h.room, by omega, ?_, ?_, fun t h1 h3 => ?_, fun t ht => ?_⟩
  · rw [h.rest, Nat.div_div_eq_div_mul, show nd0 - (nd - 2) = nd0 - nd + 2 by omega, Nat.pow_add]
  · have hs := h.small
    rw [show nd = nd - 2 + 2 by omega, Nat.pow_add] at hs
    exact Nat.div_lt_of_lt_mul (by rw [Nat.mul_comm]; exact hs)
  · by_cases e2 : t = nd - 2
    · rw [e2, List.getElem?_set_self (by rw [List.length_set]; omega)]
      rw [show nd0 - 1 - (nd - 2) = nd0 - nd + 1 by omega, Nat.pow_succ, ← Nat.div_div_eq_div_mul, ← h.rest]
      congr 2
      omega
    · rw [List.getElem?_set_ne (by omega)]
      by_cases e1 : t = nd - 1
      · rw [e1, List.getElem?_set_self (by omega)]
        rw [show nd0 - 1 - (nd - 1) = nd0 - nd by omega, ← h.rest]
        congr 2
        omega
      · rw [List.getElem?_set_ne (by omega)]
        exact h.done t (by omega) h3
  · rw [List.getElem?_set_ne (by omega), List.getElem?_set_ne (by omega)]
    exact h.ahead t ht
theorem FmtI.step1 {c0 c : List Nat} {off nd0 u v : Nat} (h : FmtI c0 off nd0 u 1 v c) : FmtI c0 off nd0 u 0 0 (c.set off (48 + v)) := by
  have hle := h.le
  have hr := h.room
  have hlen := h.len
  have hv : v < 10 := by simpa using h.small
  refine ⟨by simp [h.len], h.room, Nat.zero_le _, ?_, by simp, fun t _ h3 => ?_, fun t ht => ?_⟩
  · have e : u / 10 ^ (nd0 - 0) = v / 10 := by rw [h.rest, Nat.div_div_eq_div_mul, show nd0 - 0 = nd0 - 1 + 1 by omega, Nat.pow_succ]
    rw [e]
    omega
  · by_cases e0 : t = 0
    · rw [e0, Nat.add_zero, List.getElem?_set_self (by omega)]
      rw [show nd0 - 1 - 0 = nd0 - 1 by omega, ← h.rest, Nat.mod_eq_of_lt hv]
    · rw [List.getElem?_set_ne (by omega)]
      exact h.done t (by omega) h3
  · rw [List.getElem?_set_ne (by omega)]
    exact h.ahead t ht
/-- All laid: the numeral. -/
theorem FmtI.numeral {c0 c : List Nat} {off u v : Nat} (h : FmtI c0 off (Lib.nDigits u) u 0 v c) : (c.drop off).take (Lib.nDigits u) = decN u := by
  have hr := h.room
  have hlen := h.len
  apply List.ext_getElem?
  intro t
  unfold decN
  rw [Lib.decDigits_eq, List.map_map]
  by_cases ht : t < Lib.nDigits u
  · rw [List.getElem?_take, if_pos ht, List.getElem?_drop, h.done t (Nat.zero_le _) ht, List.getElem?_map, List.getElem?_range ht]
    simp only [Option.map_some, Function.comp, Lib.dg, UInt8.toNat_ofNat']
    congr 1
    have : u / 10 ^ (Lib.nDigits u - 1 - t) % 10 < 10 := Nat.mod_lt _ (by decide)
    omega
  · rw [List.getElem?_take, if_neg ht, List.getElem?_eq_none (by simp; omega)]
end Go.Proofs.YtpglcebeldgeeaaDoor.val

namespace Go.Proofs.YtpglcebeldgeeaaDoor.val
open Go Go.Am Go.Proofs.YtpglcebeldgeeaaDoor.laid
set_option linter.unusedVariables false
set_option linter.unusedSimpArgs false

section
variable {S : AS}
def dig29H (S : AS) (n0 : Nat) (k : Nat) (F' : Fr) (S' : AS) : Prop :=
  ∃ (n : Nat) (s : List Nat), Sub S S' ∧ decN n0 = decN n ++ s ∧ n < 18446744073709551616 ∧ s.length + k = 20 ∧ n < 10 ^ k ∧ 0 < k ∧ sl F' 0 = .int .u64 n ∧ sl F' 3 = .str s
end
end Go.Proofs.YtpglcebeldgeeaaDoor.val

namespace Go.Proofs.YtpglcebeldgeeaaDoor.val
open Go Go.Am Go.Proofs.YtpglcebeldgeeaaDoor.laid
set_option linter.unusedVariables false
set_option linter.unusedSimpArgs false

section
variable {S : AS}
end
end Go.Proofs.YtpglcebeldgeeaaDoor.val

namespace Go.Proofs.YtpglcebeldgeeaaDoor.val
open Go Go.Am Go.Proofs.YtpglcebeldgeeaaDoor.laid
set_option linter.unusedVariables false
set_option linter.unusedSimpArgs false

def textR (r : AV) (o : Option (List Nat)) : Prop := match o with | some t => r = .tuple [.str t, .int .i64 0] | none => r = .tuple [.str [], .int .i64 1]
theorem add_str (a b : List Nat) (h : a.length + b.length ≤ 4611686018427387904) : binS .add a b = some (.str (a ++ b)) := by
  show cond (Nat.ble (Nat.add (lenL a) (lenL b)) 4611686018427387904) (some (AV.str (appL a b))) none = _
  rw [nble, lenL_eq, lenL_eq]
  have e : Nat.add a.length b.length = a.length + b.length := rfl
  rw [e]
  simp [h, appL_eq]
/-- Bytes more. -/
theorem app_four {S' : AS} {v : AV} {out : List Nat} (l : List Nat) (m : Nat) (hm : l.length = m + 1) (hg : Gw S' v 1 5 (bytA out)) (hl : out.length + (m + 1) ≤ 140737488355328) :
    ∃ v' T, builtinV C0 ⟨S'.h.set S'.next (.row (bytA l) 0 0 false 5), S'.next + 1⟩ .append [43, 43] [v, .slice S'.next 0 0 (m + 1) (m + 1) 1 (some (m + 1))] = .val v' T ∧ Gw T v' 1 5 (bytA (out ++ l)) ∧ (∀ id, id < S'.next → bnd v ≠ id + 1 → T.h.get id = S'.h.get id) ∧ S'.next ≤ T.next ∧ (bnd v' = bnd v ∨ S'.next < bnd v') := by
  have hold := hg.1.old
  have hx : Sl (⟨S'.h.set S'.next (.row (bytA l) 0 0 false 5), S'.next + 1⟩ : AS) (.slice S'.next 0 0 (m + 1) (m + 1) 1 (some (m + 1))) 1 (bytA l) := by
    refine ⟨by simp [isSl, capB], ?_, by rw [bytA_len, hm]; simp [sLen], by simp [bnd]⟩
    have := bytA_len l
    simp [rdS, rd_at, rdO_row]
    rw [List.take_of_length_le (by rw [this, hm]; exact Nat.le_refl _)]
  have hgT : Gw (⟨S'.h.set S'.next (.row (bytA l) 0 0 false 5), S'.next + 1⟩ : AS) v 1 5 (bytA out) := hg.agree (fun id e => get_set_ne _ _ (by omega)) (Nat.le_succ _)
  have hlen : sLen v = out.length := by rw [hg.1.len1, bytA_len]
  obtain ⟨v', V, e2, r1, r2, r3, r4, r5, r6, r7⟩ := append_gw (cx := C0) (ts := []) (t := 43) (u := 43) (p := (5, 1, 1)) st56 ud56 rfl hgT hx (by rw [hlen]; simp [fits, nble, sLen_slice]; omega)
  simp only at r1
  rw [bytA_app] at r1
  refine ⟨v', V, e2, r1, fun id h1 h2 => ?_, by have : S'.next + 1 ≤ V.next := r3; omega, ?_⟩
  · rw [r2 id (by show id < S'.next + 1; omega) (fun e => h2 e.symm)]
    exact get_set_ne _ _ (by omega)
  · rcases r6 with r6 | r6
    · exact .inl r6
    · right
      have : S'.next + 1 < bnd v' := r6
      omega
def txtH (T : AS) (B : Nat) (s : List Nat) (k : Nat) (F' : Fr) (S' : AS) : Prop :=
  ∃ (i : Nat) (v : AV), Sub T S' ∧ Gw S' v 1 5 (bytA (34 :: (s.take i).flatMap q1)) ∧ (bnd v = 0 ∨ T.next < bnd v) ∧ sl F' 1 = .ptr B 0 0 4 ∧ sl F' 4 = v ∧ sl F' 5 = .int .i64 i ∧ F'.n = 80 ∧ i ≤ s.length ∧ k = s.length - i
section
variable {S : AS}
end
end Go.Proofs.YtpglcebeldgeeaaDoor.val

namespace Go.Proofs.YtpglcebeldgeeaaDoor.val
open Go Go.Am Go.Proofs.YtpglcebeldgeeaaDoor.laid
set_option linter.unusedVariables false
set_option linter.unusedSimpArgs false

theorem valN_lt : ∀ (l : List Nat) (acc k : Nat), (∀ c, c ∈ l → 48 ≤ c ∧ c ≤ 57) → acc < 10 ^ k → valN l acc < 10 ^ (k + l.length)
  | [], acc, k, _, h => h
  | c :: l, acc, k, hd, h => by
    have hc := hd c (List.mem_cons_self ..)
    have := valN_lt l (10 * acc + (c - 48)) (k + 1) (fun d hd' => hd d (List.mem_cons_of_mem _ hd')) (by rw [Nat.pow_succ]; omega)
    rw [List.length_cons, show k + (l.length + 1) = k + 1 + l.length by omega]
    exact this
def numH (S : AS) (l : List Nat) (neg : Bool) (k : Nat) (F' : Fr) (S' : AS) : Prop :=
  S' = S ∧ ∃ i : Nat, (∀ c, c ∈ l.take i → 48 ≤ c ∧ c ≤ 57) ∧ sl F' 0 = .str l ∧ sl F' 4 = .bool neg ∧ sl F' 5 = .int .u64 (valN (l.take i) 0 : Nat) ∧ sl F' 6 = .int .i64 i ∧ i ≤ l.length ∧ k = l.length - i
section
variable {S : AS}
/-- The loop of number, and what is behind it. -/
theorem num_body {l : List Nat} (hl : l.length ≤ 19) {i : Nat} (hi : i ≤ l.length) (hd : ∀ c, c ∈ l.take i → 48 ≤ c ∧ c ≤ 57) : valN (l.take i) 0 < 10 ^ i := by
  have := valN_lt (l.take i) 0 0 hd (by simp)
  rw [List.length_take, Nat.min_eq_left hi, Nat.zero_add] at this
  exact this
theorem digR_bad {l : List Nat} (h : ¬ (l = [] ∨ 19 < l.length)) {i c : Nat} (hc : l[i]? = some c) (hb : ¬ (48 ≤ c ∧ c ≤ 57)) : digR l = none := by
  unfold digR
  rw [if_neg h, if_neg]
  intro e
  have := List.all_eq_true.1 e c (List.mem_of_getElem? hc)
  simp at this
  omega
theorem digR_good {l : List Nat} (h : ¬ (l = [] ∨ 19 < l.length)) (hd : ∀ c, c ∈ l → 48 ≤ c ∧ c ≤ 57) : digR l = some (valN l 0) := by
  unfold digR
  rw [if_neg h, if_pos]
  rw [List.all_eq_true]
  intro c hc
  simpa using hd c hc
end
end Go.Proofs.YtpglcebeldgeeaaDoor.val

namespace Go.Proofs.YtpglcebeldgeeaaDoor.val
open Go Go.Am Go.Proofs.YtpglcebeldgeeaaDoor.laid
set_option linter.unusedVariables false
set_option linter.unusedSimpArgs false

section
variable {S : AS}
def hexI (c : Nat) : Int := match hexR c with | some x => (x : Int) | none => -1
theorem hexI_nn (c : Nat) : (0 ≤ hexI c) ↔ ∃ x, hexR c = some x := by
  unfold hexI
  cases hexR c with
  | none => simp
  | some x => simp
theorem hexR_lt {a x : Nat} (h : hexR a = some x) : x < 16 := hexV_lt (hexR_V h)
theorem wrd_plain {f c d : Nat} {r out : List Nat} (h : c ≠ 92 ∨ r = []) : wrdN (f + 1) (c :: d :: r) out = wrdN f (d :: r) (out ++ [c]) := by
  simp only [wrdN]
  rw [if_neg (fun e => by rcases h with h | h; exact h e.1; exact e.2 h)]
theorem wrd_other {f d : Nat} {r out : List Nat} (h0 : r ≠ []) (h : d ≠ 120 ∨ r.length < 3) : wrdN (f + 1) (92 :: d :: r) out = wrdN f r (out ++ [d]) := by
  simp only [wrdN]
  rw [if_pos ⟨trivial, h0⟩]
  match r, h with
  | [], _ => rfl
  | [a], _ => rfl
  | [a, b], _ => rfl
  | a :: b :: e :: r, h =>
    have : d ≠ 120 := by
      rcases h with h | h
      · exact h
      · simp only [List.length_cons] at h; omega
    simp only [if_neg this]
theorem wrd_hex {f a b e : Nat} {r out : List Nat} : wrdN (f + 1) (92 :: 120 :: a :: b :: e :: r) out = (match hexR2 a b with | some n => wrdN f (e :: r) (out ++ [n]) | none => wrdN f (a :: b :: e :: r) (out ++ [120])) := by
  cases h : hexR2 a b <;> simp [wrdN, h]
def wrdH (S : AS) (s : List Nat) (R : List Nat) (k : Nat) (F' : Fr) (S' : AS) : Prop :=
  ∃ (i f : Nat) (out : List Nat) (v : AV), Sub S S' ∧ Gw S' v 1 5 (bytA out) ∧ (bnd v = 0 ∨ S.next < bnd v) ∧ (∀ c, c ∈ out → c < 256) ∧ out.length ≤ i ∧ wrdN f (s.drop i) out = R ∧ s.length - i ≤ f ∧
    sl F' 0 = .str s ∧ sl F' 3 = v ∧ sl F' 4 = .int .i64 i ∧ F'.n = 88 ∧ i ≤ s.length ∧ k = s.length - i
theorem wrdH_mk {S : AS} {s : List Nat} {R : List Nat} {k : Nat} {F' : Fr} {S' : AS} (i f : Nat) (out : List Nat) (v : AV) (h1 : Sub S S') (h2 : Gw S' v 1 5 (bytA out)) (h3 : bnd v = 0 ∨ S.next < bnd v) (h4 : ∀ c, c ∈ out → c < 256) (h5 : out.length ≤ i) (h6 : wrdN f (s.drop i) out = R) (h7 : s.length - i ≤ f)
    (h8 : sl F' 0 = .str s) (h9 : sl F' 3 = v) (h10 : sl F' 4 = .int .i64 i) (h11 : F'.n = 88) (h12 : i ≤ s.length) (h13 : k = s.length - i) : wrdH S s R k F' S' := ⟨i, f, out, v, h1, h2, h3, h4, h5, h6, h7, h8, h9, h10, h11, h12, h13⟩
end
end Go.Proofs.YtpglcebeldgeeaaDoor.val

namespace Go.Proofs.YtpglcebeldgeeaaDoor.val
open Go Go.Am Go.Proofs.YtpglcebeldgeeaaDoor.laid
set_option linter.unusedVariables false
set_option linter.unusedSimpArgs false

def parO (r : AV) (o : Option ValV) : Prop := match o with | some v => r = .tuple [.agg (encV v), .int .i64 0] | none => r = .tuple [.agg (encV zeroV), .int .i64 5]
def parM (S : AS) (n : Nat) (s : List Nat) (v : ValV) (F' : Fr) (S' : AS) : Prop :=
  Sub S S' ∧ S.next + 2 ≤ S'.next ∧ S'.h.get S.next = some (.row (encV zeroV) 0 0 false 36) ∧ S'.h.get (S.next + 1) = some (.row (encV v) 0 0 false 36) ∧ sl F' 0 = .str s ∧ sl F' 2 = .ptr S.next 0 0 4 ∧ sl F' 4 = .ptr (S.next + 1) 0 0 4 ∧ F'.n = n
theorem parM_mk {S : AS} {n : Nat} {s : List Nat} {v : ValV} {F' : Fr} {S' : AS} (h1 : Sub S S') (h2 : S.next + 2 ≤ S'.next) (h3 : S'.h.get S.next = some (.row (encV zeroV) 0 0 false 36)) (h4 : S'.h.get (S.next + 1) = some (.row (encV v) 0 0 false 36)) (h5 : sl F' 0 = .str s) (h6 : sl F' 2 = .ptr S.next 0 0 4) (h7 : sl F' 4 = .ptr (S.next + 1) 0 0 4) (h8 : F'.n = n) : parM S n s v F' S' := ⟨h1, h2, h3, h4, h5, h6, h7, h8⟩
theorem bld23_0 : buildA C0 36 [] = some (.agg [.int .i64 0, .int .i64 0, .str [], .bool false]) := by kernel_rfl
theorem bld23_n (m : Int) : buildA C0 36 [(0, .int .i64 1), (1, .int .i64 m)] = some (.agg [.int .i64 1, .int .i64 m, .str [], .bool false]) := by kernel_rfl
theorem bld23_b (b : Bool) : buildA C0 36 [(0, .int .i64 3), (3, .bool b)] = some (.agg [.int .i64 3, .int .i64 0, .str [], .bool b]) := by kernel_rfl
theorem bld23_s (s : List Nat) : buildA C0 36 [(0, .int .i64 2), (2, .str s)] = some (.agg [.int .i64 2, .int .i64 0, .str s, .bool false]) := by kernel_rfl
theorem readR_num {s : List Nat} {m : Int} (h : numR s = some m) : readR s = ⟨1, m, [], false⟩ := by unfold readR; rw [h]
theorem readR_tf {s : List Nat} (h : numR s = none) (ht : s = trueN ∨ s = falseN) : readR s = ⟨3, 0, [], decide (s = trueN)⟩ := by unfold readR; rw [h]; simp only [ht, if_true]
theorem readR_word {s q : List Nat} {d : Nat} (h : numR s = none) (ht : ¬ s = trueN) (hf : ¬ s = falseN) (he : s = 34 :: d :: q) : readR s = ⟨2, 0, wrd s, false⟩ := by
  unfold readR; rw [h]; simp only [ht, hf, or_self, if_false]; subst he; rfl
theorem readR_zero {s : List Nat} (h : numR s = none) (ht : ¬ s = trueN) (hf : ¬ s = falseN) (he : ∀ d q, s ≠ 34 :: d :: q) : readR s = zeroV := by
  unfold readR; rw [h]; simp only [ht, hf, or_self, if_false]
section
variable {S : AS}
end
end Go.Proofs.YtpglcebeldgeeaaDoor.val
