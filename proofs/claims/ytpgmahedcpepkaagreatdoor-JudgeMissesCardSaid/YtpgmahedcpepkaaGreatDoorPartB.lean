/-
  The facts that the size of an event's form wants.
  Numbers' bits, exactly.
  Copies of slices; numbers laid as bytes.
  A record's form.
  Numbers, texts, values, as bytes: just which ones.
  The writer: texts, values, constraints.
-/
import Derived.Test.YtpgmahedcpepkaaGreatDoorPartA
import Derived.Test.YtpgmahedcpepkaaGreatDoorAmWide
namespace Go.Proofs.YtpgmahedcpepkaaGreatDoor.dk
open Go Go.Am
open Go.Proofs.YtpgmahedcpepkaaGreatDoor.mod (C0 A0)
set_option linter.unusedVariables false
set_option linter.unusedSimpArgs false

noncomputable abbrev C1 : Am.Cx := C0
theorem ex1 (f : Nat) (h : (f == 412) = false) : C1.exts.get f = none := Go.Proofs.YtpgmahedcpepkaaGreatDoor.mod.ex0 f h
theorem pr1 (f : Nat) (h : (f == 0) = false) : C1.prims.get f = none := get_leaf f
theorem pu1 (f : Nat) : C1.pures.get f = none := get_leaf f
@[simp] theorem ag3 : aggOf C1 3 = some false := by kernel_rfl
@[simp] theorem sz3 : szOf C1 3 = some 1 := by kernel_rfl
@[simp] theorem cv3_31 : convT C1 3 30 = some .u64 := by kernel_rfl
@[simp] theorem ag9 : aggOf C1 9 = some false := by kernel_rfl
@[simp] theorem sz9 : szOf C1 9 = some 1 := by kernel_rfl
@[simp] theorem ag4 : aggOf C1 4 = some false := by kernel_rfl
@[simp] theorem sz4 : szOf C1 4 = some 1 := by kernel_rfl
@[simp] theorem fa102_0 : fieldAt C1 24 0 = some 0 := by kernel_rfl
@[simp] theorem fa102_1 : fieldAt C1 24 1 = some 1 := by kernel_rfl
@[simp] theorem ag2 : aggOf C1 2 = some false := by kernel_rfl
@[simp] theorem sz2 : szOf C1 2 = some 1 := by kernel_rfl
@[simp] theorem fa102_2 : fieldAt C1 24 2 = some 2 := by kernel_rfl
@[simp] theorem fa102_3 : fieldAt C1 24 3 = some 3 := by kernel_rfl
@[simp] theorem ag31 : aggOf C1 38 = some false := by kernel_rfl
@[simp] theorem sz31 : szOf C1 38 = some 1 := by kernel_rfl
@[simp] theorem st31 : slT C1 38 = some (5, 1, 1) := by kernel_rfl
theorem fn35 : C1.fns.get 228 = some Tryz.f228 := by kernel_rfl
theorem ok35 : codeOk C1 Tryz.f228.ntmps (Tryz.f228.body.getD .skip) = true := by kernel_rfl
@[simp] theorem un31 : und C1 38 = some (.slice 5) := by kernel_rfl
@[simp] theorem cv32_5 : convT C1 30 5 = some .u8 := by kernel_rfl
theorem fn77 : C1.fns.get 152 = some Tryz.f152 := by kernel_rfl
theorem ok77 : codeOk C1 Tryz.f152.ntmps (Tryz.f152.body.getD .skip) = true := by kernel_rfl
theorem fn160 : C1.fns.get 155 = some Tryz.f155 := by kernel_rfl
theorem ok160 : codeOk C1 Tryz.f155.ntmps (Tryz.f155.body.getD .skip) = true := by kernel_rfl
@[simp] theorem fa300_0 : fieldAt C1 350 0 = some 0 := by kernel_rfl
theorem fn197 : C1.fns.get 226 = some Tryz.f226 := by kernel_rfl
theorem ok197 : codeOk C1 Tryz.f226.ntmps (Tryz.f226.body.getD .skip) = true := by kernel_rfl
theorem fn240 : C1.fns.get 283 = some Tryz.f283 := by kernel_rfl
theorem ok240 : codeOk C1 Tryz.f283.ntmps (Tryz.f283.body.getD .skip) = true := by kernel_rfl
theorem fn241 : C1.fns.get 284 = some Tryz.f284 := by kernel_rfl
theorem ok241 : codeOk C1 Tryz.f284.ntmps (Tryz.f284.body.getD .skip) = true := by kernel_rfl
theorem fn263 : C1.fns.get 321 = some Tryz.f321 := by kernel_rfl
theorem ok263 : codeOk C1 Tryz.f321.ntmps (Tryz.f321.body.getD .skip) = true := by kernel_rfl
theorem fn264 : C1.fns.get 322 = some Tryz.f322 := by kernel_rfl
theorem ok264 : codeOk C1 Tryz.f322.ntmps (Tryz.f322.body.getD .skip) = true := by kernel_rfl
theorem fn280 : C1.fns.get 369 = some Tryz.f369 := by kernel_rfl
theorem ok280 : codeOk C1 Tryz.f369.ntmps (Tryz.f369.body.getD .skip) = true := by kernel_rfl
@[simp] theorem cv2_27 : convT C1 2 30 = some .u64 := by kernel_rfl
end Go.Proofs.YtpgmahedcpepkaaGreatDoor.dk

namespace Go.Proofs.YtpgmahedcpepkaaGreatDoor.dk
open Go Go.Am
set_option linter.unusedVariables false
set_option linter.unusedSimpArgs false

theorem u64_nat {n : Nat} (h : n < 18446744073709551616) : IntKind.u64.wrap (n : Int) = n := by simp [IntKind.wrap, IntKind.bits, IntKind.signed]; omega
theorem u32_nat {n : Nat} (h : n < 4294967296) : IntKind.u32.wrap (n : Int) = n := by simp [IntKind.wrap, IntKind.bits, IntKind.signed]; omega
theorem u8_nat {n : Nat} (h : n < 256) : IntKind.u8.wrap (n : Int) = n := by simp [IntKind.wrap, IntKind.bits, IntKind.signed]; omega
theorem u8_mod (n : Nat) : IntKind.u8.wrap (n : Int) = ((n % 256 : Nat) : Int) := by simp [IntKind.wrap, IntKind.bits, IntKind.signed]
theorem u32_mod (n : Nat) : IntKind.u32.wrap (n : Int) = ((n % 4294967296 : Nat) : Int) := by simp [IntKind.wrap, IntKind.bits, IntKind.signed]
theorem bits_nat {op : BinOp} {k : IntKind} (hop : op = .and ∨ op = .or ∨ op = .xor) (hk : ∀ n : Nat, n < 2 ^ k.bits → k.wrap (n : Int) = n) {a b : Nat} (ha : a < 2 ^ k.bits) (hb : b < 2 ^ k.bits) : bitsI op k a b = .int k (natBits op a b : Nat) := by
  rw [bitsI_eq (by rcases hop with h | h | h <;> simp [h])]
  rcases hop with rfl | rfl | rfl
  · show AV.int k (k.wrap _) = _
    rw [BitVec.toNat_and, bv_nat _ a ha, bv_nat _ b hb, hk _ (Nat.lt_of_le_of_lt Nat.and_le_left ha)]; rfl
  · show AV.int k (k.wrap _) = _
    rw [BitVec.toNat_or, bv_nat _ a ha, bv_nat _ b hb, hk _ (Nat.or_lt_two_pow ha hb)]; rfl
  · show AV.int k (k.wrap _) = _
    rw [BitVec.toNat_xor, bv_nat _ a ha, bv_nat _ b hb, hk _ (Nat.xor_lt_two_pow ha hb)]; rfl
theorem hk64 : ∀ n : Nat, n < 2 ^ IntKind.u64.bits → IntKind.u64.wrap (n : Int) = n := fun n h => u64_nat h
theorem hk32 : ∀ n : Nat, n < 2 ^ IntKind.u32.bits → IntKind.u32.wrap (n : Int) = n := fun n h => u32_nat h
theorem hk8 : ∀ n : Nat, n < 2 ^ IntKind.u8.bits → IntKind.u8.wrap (n : Int) = n := fun n h => u8_nat h
section
variable {cx : Cx} {t : TypeId} {c : Bool} {a b : Nat}
theorem bin_and64 (ha : a < 18446744073709551616) (hb : b < 18446744073709551616) : binV cx .and t c (.int .u64 a) (.int .u64 b) = some (.int .u64 ((a &&& b : Nat) : Int)) := by
  show cond (kindEq .u64 .u64) (some (bitsI .and .u64 a b)) none = _
  rw [bits_nat (.inl rfl) hk64 ha hb, kind_self]; rfl
theorem bin_or8 (ha : a < 256) (hb : b < 256) : binV cx .or t c (.int .u8 a) (.int .u8 b) = some (.int .u8 ((a ||| b : Nat) : Int)) := by
  show cond (kindEq .u8 .u8) (some (bitsI .or .u8 a b)) none = _
  rw [bits_nat (.inr (.inl rfl)) hk8 ha hb, kind_self]; rfl
theorem bin_and32 (ha : a < 4294967296) (hb : b < 4294967296) : binV cx .and t c (.int .u32 a) (.int .u32 b) = some (.int .u32 ((a &&& b : Nat) : Int)) := by
  show cond (kindEq .u32 .u32) (some (bitsI .and .u32 a b)) none = _
  rw [bits_nat (.inl rfl) hk32 ha hb, kind_self]; rfl
theorem bin_or32 (ha : a < 4294967296) (hb : b < 4294967296) : binV cx .or t c (.int .u32 a) (.int .u32 b) = some (.int .u32 ((a ||| b : Nat) : Int)) := by
  show cond (kindEq .u32 .u32) (some (bitsI .or .u32 a b)) none = _
  rw [bits_nat (.inr (.inl rfl)) hk32 ha hb, kind_self]; rfl
theorem bin_xor32 (ha : a < 4294967296) (hb : b < 4294967296) : binV cx .xor t c (.int .u32 a) (.int .u32 b) = some (.int .u32 ((a ^^^ b : Nat) : Int)) := by
  show cond (kindEq .u32 .u32) (some (bitsI .xor .u32 a b)) none = _
  rw [bits_nat (.inr (.inr rfl)) hk32 ha hb, kind_self]; rfl
theorem bin_xor8 (ha : a < 256) (hb : b < 256) : binV cx .xor t c (.int .u8 a) (.int .u8 b) = some (.int .u8 ((a ^^^ b : Nat) : Int)) := by
  show cond (kindEq .u8 .u8) (some (bitsI .xor .u8 a b)) none = _
  rw [bits_nat (.inr (.inr rfl)) hk8 ha hb, kind_self]; rfl
theorem bin_shr {k : IntKind} {n s : Nat} (hs : s ≤ k.bits) : binV cx .shr t c (.int k n) (.int .u64 s) = some (.int k ((n / 2 ^ s : Nat) : Int)) := by
  show some (forceI (Int.fdiv (n : Int) (.ofNat (Nat.pow 2 (Nat.min s k.bits)))) fun n => AV.int k n) = _
  rw [forceI_eq]
  have h1 : Nat.min s k.bits = s := Nat.min_eq_left hs
  rw [h1]
  have h2 : (n : Int).fdiv (Int.ofNat (Nat.pow 2 s)) = ((n / 2 ^ s : Nat) : Int) := by
    have e : (n : Int).fdiv ((2 ^ s : Nat) : Int) = ((n / 2 ^ s : Nat) : Int) := by rw [Int.fdiv_eq_ediv_of_nonneg _ (Int.natCast_nonneg _)]; exact (Int.natCast_ediv n (2 ^ s)).symm
    exact e
  rw [h2]
theorem un_not32 (ha : a < 4294967296) : unV .xor (.int .u32 a) = some (.int .u32 ((4294967295 ^^^ a : Nat) : Int)) := by
  show some (bitsI .xor .u32 ((4294967295 : Nat) : Int) a) = _
  rw [bits_nat (.inr (.inr rfl)) hk32 (by decide) ha]; rfl
end
theorem and_127 (n : Nat) : n &&& 127 = n % 128 := Nat.and_two_pow_sub_one_eq_mod n 7
theorem or_128 {n : Nat} (h : n < 128) : n ||| 128 = n + 128 := by
  have := Nat.two_pow_add_eq_or_of_lt (i := 7) (b := n) h 1
  rw [Nat.or_comm]
  have e : (2 : Nat) ^ 7 * 1 = 128 := by decide
  rw [e] at this
  omega
end Go.Proofs.YtpgmahedcpepkaaGreatDoor.dk

namespace Go.Proofs.YtpgmahedcpepkaaGreatDoor.dk
open Go Go.Am
set_option linter.unusedVariables false
set_option linter.unusedSimpArgs false

theorem Gw.fresh {S : AS} {id sz e : Nat} (hid : S.h.get id = some (.row [] 0 0 false e)) (hlt : id < S.next) : Gw S (.slice id 0 0 0 0 sz (some 0)) sz e [] :=
  ⟨⟨by simp [isSl, capB], by simp [rdS], by simp [sLen], by simp [bnd]; omega⟩, .inr ⟨id, 0, 0, 0, 0, some 0, rfl, by simp [capN], hlt, [], 0, 0, hid, Nat.le_refl _, rfl⟩⟩
theorem okW_sl {S : AS} {v : AV} {sz : Nat} {cs : List AV} (h : Sl S v sz cs) : okW v = true := okW_of h.ok
def New (lo : Nat) (v : AV) : Prop := bnd v = 0 ∨ lo < bnd v
theorem clone35 {S : AS} {v : AV} {cs : List AV} (h : Sl S v 1 cs) (hf : sLen v ≤ 1073741824) : CallW C1 228 [v] S fun v' T => Sub S T ∧ Gw T v' 1 5 cs ∧ sLen v' = sLen v ∧ New S.next v' := by
  refine enterW (pu1 _) (pr1 _ rfl) fn35 rfl ok35 (by simp) fun F hn hs => ?_
  have s0 := hs 0
  clear hs
  simp only [List.getElem?_cons_zero, Option.getD_some] at s0
  have h2 := h.sl
  have e0 : ∀ c, binV C1 .eql 38 c v .nils = some (.bool (isNil v)) := fun c => eq_nil (cx := C1) (t := 38) (c := c) st31 h2
  cases hnil : isNil v with
  | true =>
    obtain ⟨rfl, rfl⟩ := h.isNil hnil
    simp [s0, Sub.refl, Gw.nil, bnd, New]
  | false =>
    have hx : Sl (⟨S.h.set S.next (.row [] 0 0 false 5), S.next + 1⟩ : AS) v 1 cs := ⟨h2, by rw [rdS_set h.old]; exact h.rd, h.len, Nat.le_succ_of_le h.old⟩
    have hfit : fits (sLen (.slice S.next 0 0 0 0 1 (some 0)) + sLen v) 1 = true := by simp [fits, nble, sLen_slice]; omega
    obtain ⟨v', T, e1, r1, r2, r3, r4, r5, r6, r7⟩ := append_gw (cx := C1) (ts := []) (p := (5, 1, 1)) st31 un31 rfl (Gw.fresh (get_set_same _ _ _) (Nat.lt_succ_self _)) hx hfit
    rw [List.nil_append] at r1
    have hsub : Sub S T := ⟨fun id hi => by rw [r2 id (Nat.lt_succ_of_lt hi) (by simp [bnd]; omega)]; exact get_set_ne _ _ (by omega), Nat.le_trans (Nat.le_succ _) r3⟩
    have r4' : sLen v' = sLen v := by rw [r4]; simp [sLen_slice]
    rw [hnil] at e0
    have hfr : ∀ (F : Fr) (B : Nat), freshV C1 F B (.buildSlice 38 0 #[]) = some (.slice B 0 0 0 0 1 (some 0), .row [] 0 0 false 5) := fun F B => freshV_none (p := (5, 1, 1)) st31
    simp [s0, e0, e1, hfr, r1.1.np]
    refine ⟨hsub, r1, r4', ?_⟩
    rcases r6 with r6 | r6
    · unfold New; rw [r6]; exact .inr (Nat.lt_succ_self _)
    · exact .inr (Nat.lt_of_succ_lt r6)
/-- A byte more. -/
theorem app_byte {S' : AS} {v : AV} {cs : List AV} {lo : Nat} (x : AV) (hg : Gw S' v 1 5 cs) (hl : cs.length ≤ 1048576) (hb : New lo v) (hlo : lo ≤ S'.next) :
    ∃ v' T, builtinV C1 ⟨S'.h.set S'.next (.row [x] 0 0 false 5), S'.next + 1⟩ .append [38, 38] [v, .slice S'.next 0 0 1 1 1 (some 1)] = .val v' T ∧ Gw T v' 1 5 (cs ++ [x]) ∧ (∀ id, id < lo → T.h.get id = S'.h.get id) ∧ S'.next ≤ T.next ∧ New lo v' := by
  have hold := hg.1.old
  have hx : Sl (⟨S'.h.set S'.next (.row [x] 0 0 false 5), S'.next + 1⟩ : AS) (.slice S'.next 0 0 1 1 1 (some 1)) 1 [x] :=
    ⟨by simp [isSl, capB], by simp [rdS, rd_at], by simp [sLen], by simp [bnd]⟩
  have hgT : Gw (⟨S'.h.set S'.next (.row [x] 0 0 false 5), S'.next + 1⟩ : AS) v 1 5 cs := hg.agree (fun id e => get_set_ne _ _ (by omega)) (Nat.le_succ _)
  have hlen := hg.1.len1
  obtain ⟨v', V, e2, r1, r2, r3, r4, r5, r6, r7⟩ := append_gw (cx := C1) (ts := []) (u := 38) (p := (5, 1, 1)) st31 un31 rfl hgT hx (by rw [hlen]; simp [fits, nble, sLen_slice]; omega)
  refine ⟨v', V, e2, r1, fun id hid => ?_, by have : S'.next + 1 ≤ V.next := r3; omega, ?_⟩
  · have : id < S'.next + 1 := by omega
    rw [r2 id this (by rcases hb with h | h <;> omega)]
    exact get_set_ne _ _ (by omega)
  · rcases r6 with r6 | r6
    · unfold New; rw [r6]; exact hb
    · right
      have : S'.next + 1 < bnd v' := r6
      omega
/-- A number's bytes. -/
def numB (n : Nat) : List Nat := if n < 128 then [n] else (n % 128 + 128) :: numB (n / 128)
theorem numB_lt (n : Nat) : ∀ c, c ∈ numB n → c < 256 := by
  induction n using Nat.strongRecOn with
  | _ n ih =>
    intro c hc
    unfold numB at hc
    split at hc
    · simp at hc; omega
    · rename_i h
      rcases List.mem_cons.1 hc with rfl | hc
      · have := Nat.mod_lt n (show 0 < 128 by decide); omega
      · exact ih (n / 128) (by omega) c hc
theorem numB_len : ∀ (k n : Nat), n < 128 ^ (k + 1) → (numB n).length ≤ k + 1
  | 0, n, h => by
    unfold numB
    have : n < 128 := by simpa using h
    rw [if_pos this]; simp
  | k + 1, n, h => by
    unfold numB
    split
    · simp
    · have := numB_len k (n / 128) (by rw [Nat.div_lt_iff_lt_mul (by decide)]; rw [Nat.pow_succ] at h; exact h)
      simp; omega
theorem numB_pos (n : Nat) : 1 ≤ (numB n).length := by
  unfold numB
  split <;> simp
theorem nt77 : Tryz.f152.ntmps = 26 := by kernel_rfl
def numH (S : AS) (bs : List Nat) (k : Nat) (F' : Fr) (S' : AS) : Prop :=
  ∃ (v : AV) (cs : List Nat), Gw S' v 1 5 (bytA cs) ∧ Sub S S' ∧ New S.next v ∧ bs = cs ++ numB k ∧ bs.length ≤ 1048576 ∧ k < 18446744073709551616 ∧ sl F' 5 = v ∧ sl F' 1 = .int .u64 k ∧ F'.n = 26
theorem num77 {S : AS} {b : AV} {cs : List Nat} {n : Nat} (h : Sl S b 1 (bytA cs)) (hl : cs.length ≤ 1000000) (hn : n < 18446744073709551616) :
    CallW C1 152 [b, .int .u64 n] S fun r T => Sub S T ∧ New S.next r ∧ Gw T r 1 5 (bytA (cs ++ numB n)) := by
  have hlen := h.len1
  rw [bytA_len] at hlen
  obtain ⟨v, T, ⟨hT, g1, g2, g3⟩, e1⟩ := (clone35 h (by omega)).ex
  have hnb : (numB n).length ≤ 10 := numB_len 9 n (by omega)
  refine enterW (pu1 _) (pr1 _ rfl) fn77 rfl ok77 (by simp) fun F hn' hs => ?_
  rw [nt77] at hn'
  have s0 := hs 0
  have s1 := hs 1
  clear hs
  simp only [List.getElem?_cons_zero, List.getElem?_cons_succ, Option.getD_some] at s0 s1
  simp [s0, s1, e1, ex1]
  refine loopP_of (numH S (cs ++ numB n)) n ⟨v, cs, g1, hT, g3, rfl, by rw [List.length_append]; omega, hn, by simp, by simp [s1], by simp [hn']⟩ ?_
  clear s0 s1 e1 g1 g2 g3 hT h hn' hn
  rintro k F' S' hn'' ⟨v, cs1, g, hsub, hb, hbs, hlb, hk, t5, t1, hn'⟩
  clear hn''
  have hlen1 := congrArg List.length hbs
  simp only [List.length_append] at hlen1
  have hlb' := hlb
  simp only [List.length_append] at hlb'
  have hr : k % 128 < 128 := Nat.mod_lt _ (by decide)
  obtain ⟨y, hy⟩ : ∃ y, y = k % 128 := ⟨_, rfl⟩
  obtain ⟨z, hz⟩ : ∃ z, z = k / 128 := ⟨_, rfl⟩
  obtain ⟨y2, hy2⟩ : ∃ y2, y2 = y + 128 := ⟨_, rfl⟩
  have em : ∀ t c, binV C1 .and t c (.int .u64 k) (.int .u64 127) = some (.int .u64 (y : Int)) := fun t c => by rw [hy, ← and_127]; exact bin_and64 hk (by decide)
  have hsh : ∀ t c, binV C1 .shr t c (.int .u64 k) (.int .u64 7) = some (.int .u64 (z : Int)) := fun t c => by rw [hz]; exact bin_shr (s := 7) (by decide)
  rw [← hy] at hr
  have w8 := u8_nat (n := y) (by omega)
  have eo : ∀ t c, binV C1 .or t c (.int .u8 y) (.int .u8 128) = some (.int .u8 (y2 : Int)) := fun t c => by rw [hy2, ← or_128 hr]; exact bin_or8 (by omega) (by decide)
  by_cases h0 : z = 0
  · have hkn : numB k = [y] := by
      have : k < 128 := by omega
      unfold numB; rw [if_pos this, hy, Nat.mod_eq_of_lt this]
    obtain ⟨v', V, e2, q1, q2, q3, q4⟩ := app_byte (.int .u8 y) g (by rw [bytA_len]; omega) hb hsub.next
    rw [h0] at hsh
    simp [t5, t1, em, hsh, w8, e2, okW_sl g.1]
    refine ⟨q1.1.np, ⟨fun id hid => (q2 id hid).trans (hsub.h id hid), Nat.le_trans hsub.next q3⟩, q4, ?_⟩
    rw [hbs, hkn, ← bytA_app]; exact q1
  · have hkn : numB k = y2 :: numB z := by
      have : ¬ k < 128 := by omega
      rw [numB, if_neg this, hy2, hy, hz]
    obtain ⟨v', V, e2, q1, q2, q3, q4⟩ := app_byte (.int .u8 y2) g (by rw [bytA_len]; omega) hb hsub.next
    have h0' : ¬ ((z : Int) = 0) := by omega
    simp [t5, t1, em, hsh, w8, eo, h0, h0', e2, okW_sl g.1]
    refine ⟨z, by omega, v', cs1 ++ [y2], by rw [← bytA_app]; exact q1, ⟨fun id hid => (q2 id hid).trans (hsub.h id hid), Nat.le_trans hsub.next q3⟩, q4, by rw [hbs, hkn, List.append_assoc]; rfl, hlb, by omega, by simp, by simp, by simp [hn']⟩
end Go.Proofs.YtpgmahedcpepkaaGreatDoor.dk

namespace Go.Proofs.YtpgmahedcpepkaaGreatDoor.dk
open Go Go.Am
set_option linter.unusedVariables false
set_option linter.unusedSimpArgs false

section
variable {S T : AS}
theorem app_bytes {v x : AV} {cs ds : List AV} {lo : Nat} (hg : Gw S v 1 5 cs) (hx : Sl S x 1 ds) (hl : cs.length + ds.length ≤ 1073741824) (hb : New lo v) (hlo : lo ≤ S.next) :
    ∃ v' T, builtinV C1 S .append [38, 38] [v, x] = .val v' T ∧ Gw T v' 1 5 (cs ++ ds) ∧ (∀ id, id < lo → T.h.get id = S.h.get id) ∧ S.next ≤ T.next ∧ New lo v' ∧ sLen v' = cs.length + ds.length := by
  have l1 := hg.1.len1
  have l2 := hx.len1
  obtain ⟨v', V, e2, r1, r2, r3, r4, r5, r6, r7⟩ := append_gw (cx := C1) (ts := []) (u := 38) (p := (5, 1, 1)) st31 un31 rfl hg hx (by rw [l1, l2]; simp [fits, nble]; omega)
  refine ⟨v', V, e2, r1, fun id hid => r2 id (by omega) (by rcases hb with h | h <;> omega), r3, ?_, by rw [r4, l1, l2]⟩
  rcases r6 with r6 | r6
  · unfold New; rw [r6]; exact hb
  · exact .inr (by omega)
end
end Go.Proofs.YtpgmahedcpepkaaGreatDoor.dk

namespace Go.Proofs.YtpgmahedcpepkaaGreatDoor.bk
open Go Go.Am Go.Proofs.YtpgmahedcpepkaaGreatDoor.dk
open Go.Proofs.YtpgmahedcpepkaaGreatDoor.mod (Val encV encV_len)
set_option linter.unusedVariables false
set_option linter.unusedSimpArgs false

theorem u64_rng (n : Int) : 0 ≤ IntKind.u64.wrap n ∧ IntKind.u64.wrap n < 18446744073709551616 := by
  simp [IntKind.wrap, IntKind.bits, IntKind.signed]; omega
theorem mkI_wrap (k : IntKind) (n : Int) : mkI k n = .int k (k.wrap n) := by
  unfold mkI
  rw [forceI_eq, wrapF_eq]
/-- A number of the other kind. -/
def uN (n : Int) : Nat := (IntKind.u64.wrap n).toNat
theorem uN_lt (n : Int) : uN n < 18446744073709551616 := by have := u64_rng n; unfold uN; omega
theorem uN_eq (n : Int) : IntKind.u64.wrap n = (uN n : Int) := by have := u64_rng n; unfold uN; omega
theorem uN_nat {n : Nat} (h : n < 18446744073709551616) : uN n = n := by
  unfold uN
  rw [show IntKind.u64.wrap (n : Int) = (n : Int) by simp [IntKind.wrap, IntKind.bits, IntKind.signed]; omega]
  rfl
/-- A signed number as one that is not. -/
noncomputable def zigN (n : Int) : Nat := match bitsI .xor .u64 (uN (Int.mul n 2)) (uN (if n < 0 then -1 else 0)) with | .int _ m => m.toNat | _ => 0
theorem bits_u64 (a b : Nat) (ha : a < 18446744073709551616) (hb : b < 18446744073709551616) : ∃ m : Nat, m < 18446744073709551616 ∧ bitsI .xor .u64 a b = .int .u64 m := by
  show ∃ m : Nat, m < 18446744073709551616 ∧ cond (Nat.blt a (half .u64) && Nat.blt b (half .u64)) (forceN (Nat.xor a b) fun n => AV.int .u64 (Int.ofNat n)) (forceI (bitsS .xor .u64 a b) fun n => AV.int .u64 n) = AV.int .u64 m
  cases (Nat.blt a (half .u64) && Nat.blt b (half .u64)) with
  | true => exact ⟨a ^^^ b, Nat.xor_lt_two_pow (n := 64) ha hb, by rw [cond_true, forceN_eq]; rfl⟩
  | false =>
    have h := u64_rng (((BitVec.ofInt 64 a) ^^^ (BitVec.ofInt 64 b)).toNat : Int)
    refine ⟨(IntKind.u64.wrap (((BitVec.ofInt 64 a) ^^^ (BitVec.ofInt 64 b)).toNat : Int)).toNat, by omega, ?_⟩
    rw [cond_false, forceI_eq, Int.toNat_of_nonneg h.1]
    rfl
theorem zig_bits (n : Int) : zigN n < 18446744073709551616 ∧ bitsI .xor .u64 (uN (Int.mul n 2)) (uN (if n < 0 then -1 else 0)) = .int .u64 (zigN n) := by
  obtain ⟨m, h1, h2⟩ := bits_u64 _ _ (uN_lt (Int.mul n 2)) (uN_lt (if n < 0 then -1 else 0))
  have e : zigN n = m := by unfold zigN; rw [h2]; rfl
  rw [e]; exact ⟨h1, h2⟩
theorem wrap_wrap2 (n : Int) : IntKind.u64.wrap (Int.mul (IntKind.u64.wrap n) 2) = IntKind.u64.wrap (Int.mul n 2) := by
  show IntKind.u64.wrap (IntKind.u64.wrap n * 2) = IntKind.u64.wrap (n * 2)
  simp only [IntKind.wrap, IntKind.bits, IntKind.signed]
  simp
  omega
theorem shr63 {n : Int} (h1 : -9223372036854775808 ≤ n) (h2 : n < 9223372036854775808) : Int.fdiv n 9223372036854775808 = if n < 0 then -1 else 0 := by
  rw [Int.fdiv_eq_ediv_of_nonneg _ (by decide)]
  by_cases h : n < 0
  · rw [if_pos h]; omega
  · rw [if_neg h]; omega
section
variable {S T : AS} {lo : Nat}
theorem zig280 {n : Int} (h1 : -9223372036854775808 ≤ n) (h2 : n < 9223372036854775808) : ∀ Q : AV → AS → Prop, CallW C1 369 [.int .i64 n] S Q = Q (.int .u64 (zigN n)) S := fun Q => by
  have e1 : ∀ c t, binV C1 .shl t c (.int .u64 (IntKind.u64.wrap n)) (.int .u64 1) = some (.int .u64 (uN (Int.mul n 2))) := fun c t => by
    show some (mkI .u64 (Int.mul (IntKind.u64.wrap n) (.ofNat (Nat.pow 2 (Nat.min 1 IntKind.u64.bits))))) = _
    have : Nat.pow 2 (Nat.min 1 IntKind.u64.bits) = 2 := by decide
    rw [this, mkI_wrap]
    show some (AV.int .u64 (IntKind.u64.wrap (Int.mul (IntKind.u64.wrap n) 2))) = _
    rw [wrap_wrap2, uN_eq]
  have e2 : ∀ c t, binV C1 .shr t c (.int .i64 n) (.int .u64 63) = some (.int .i64 (if n < 0 then -1 else 0)) := fun c t => by
    show some (forceI (Int.fdiv n (.ofNat (Nat.pow 2 (Nat.min 63 IntKind.i64.bits)))) fun n => AV.int .i64 n) = _
    rw [forceI_eq]
    have : Nat.pow 2 (Nat.min 63 IntKind.i64.bits) = 9223372036854775808 := by decide
    rw [this]
    show some (AV.int .i64 (Int.fdiv n 9223372036854775808)) = _
    rw [shr63 h1 h2]
  have e3 : ∀ c t, binV C1 .xor t c (.int .u64 (uN (Int.mul n 2))) (.int .u64 (uN (if n < 0 then -1 else 0))) = some (.int .u64 (zigN n)) := fun c t => by
    show cond (kindEq .u64 .u64) (some (bitsI .xor .u64 (uN (Int.mul n 2)) (uN (if n < 0 then -1 else 0)))) none = _
    rw [(zig_bits n).2]; rfl
  have e4 := uN_eq (if n < 0 then -1 else 0)
  obtain ⟨z, hz⟩ : ∃ z : Int, z = if n < 0 then -1 else 0 := ⟨_, rfl⟩
  rw [← hz] at e2 e3 e4
  obtain ⟨a, ha⟩ : ∃ a, a = uN (Int.mul n 2) := ⟨_, rfl⟩
  rw [← ha] at e1 e3
  clear hz ha
  refine CallW.eq (enterW (pu1 _) (pr1 _ rfl) fn280 rfl ok280 (by simp) fun F hn hs => ?_)
  have s0 := hs 0
  clear hs
  simp only [List.getElem?_cons_zero, Option.getD_some] at s0
  simp [s0, e1, e2, e3, e4]
theorem int263 {b : AV} {bs : List Nat} {n : Int} (h : Sl S b 1 (bytA bs)) (hl : bs.length ≤ 1000000) (h1 : -9223372036854775808 ≤ n) (h2 : n < 9223372036854775808) :
    CallW C1 321 [b, .int .i64 n] S fun r T => Sub S T ∧ New S.next r ∧ Gw T r 1 5 (bytA (bs ++ numB (zigN n))) := by
  have e1 := zig280 (S := S) h1 h2
  obtain ⟨r, T, h1, e2⟩ := (num77 (n := zigN n) h hl (zig_bits n).1).ex
  refine enterW (pu1 _) (pr1 _ rfl) fn263 rfl ok263 (by simp) fun F hn hs' => ?_
  have s0 := hs' 0
  have s1 := hs' 1
  clear hs'
  simp only [List.getElem?_cons_zero, List.getElem?_cons_succ, Option.getD_some] at s0 s1
  simp [s0, s1, e1, e2, ex1, h1.2.2.1.np]
  exact h1
def lenB (s : List Nat) : List Nat := numB s.length ++ s
theorem bytes160 {b s : AV} {cs ds : List Nat} (h : Sl S b 1 (bytA cs)) (hs : Sl S s 1 (bytA ds)) (hl : cs.length ≤ 900000) (hd : ds.length ≤ 90000) :
    CallW C1 155 [b, s] S fun r T => Sub S T ∧ New S.next r ∧ Gw T r 1 5 (bytA (cs ++ lenB ds)) := by
  have hsl := hs.len1
  rw [bytA_len] at hsl
  have hnb : (numB ds.length).length ≤ 10 := numB_len 9 _ (by omega)
  obtain ⟨r, T, ⟨hT, g1, g2⟩, e1⟩ := (num77 (n := ds.length) h (by omega) (by omega)).ex
  obtain ⟨v', V, e2, r1, r2, r3, r4, r5⟩ := app_bytes g2 (hs.toSub hT) (by rw [bytA_len, bytA_len, List.length_append]; omega) g1 hT.next
  rw [bytA_app] at r1
  have hw := u64_nat (n := ds.length) (by omega)
  refine enterW (pu1 _) (pr1 _ rfl) fn160 rfl ok160 (by simp) fun F hn hs' => ?_
  have s0 := hs' 0
  have s1 := hs' 1
  clear hs'
  simp only [List.getElem?_cons_zero, List.getElem?_cons_succ, Option.getD_some] at s0 s1
  have u1 := hs.sl
  simp [s0, s1, u1, hsl, hw, e1, e2, ex1, r1.1.np, okW_sl g2.1]
  refine ⟨⟨fun id hid => (r2 id hid).trans (hT.h id hid), Nat.le_trans hT.next r3⟩, r4, ?_⟩
  unfold lenB
  rw [← List.append_assoc]; exact r1

/-! ### The writer -/
structure WrAt (lo : Nat) (S : AS) (w : Nat) (bs : List Nat) : Prop where
  ex : ∃ v, S.h.get w = some (.row [v] 0 0 false 350) ∧ Gw S v 1 5 (bytA bs) ∧ bnd v ≠ w + 1 ∧ New lo v
  lt : w < S.next
  le : lo ≤ S.next
theorem wr_new {w : Nat} {bs : List Nat} {v' : AV} {bs' : List Nat} (h : WrAt lo S w bs) (hT : Sub S T) (hb : New S.next v') (hg : Gw T v' 1 5 (bytA bs')) :
    WrAt lo ⟨T.h.set w (.row [v'] 0 0 false 350), T.next⟩ w bs' ∧ Keep (fun id => id = w) S ⟨T.h.set w (.row [v'] 0 0 false 350), T.next⟩ := by
  have h2 := h.lt
  have h3 := hT.next
  unfold New at hb
  refine ⟨⟨⟨v', get_set_same _ _ _, hg.agree (fun id e => get_set_ne _ _ (by omega)) (Nat.le_refl _), by omega, by have := h.le; unfold New; omega⟩, by show w < T.next; omega, by have := h.le; show lo ≤ T.next; omega⟩, ⟨fun id hid ha => ?_, h3⟩⟩
  show (T.h.set w _).get id = _
  rw [get_set_ne _ _ ha]
  exact hT.h id hid
theorem WrAt.sub {w : Nat} {bs : List Nat} (h : WrAt lo S w bs) (hs : Sub S T) : WrAt lo T w bs := by
  obtain ⟨⟨v, h1, h2, h4, h5⟩, h7, h8⟩ := h
  exact ⟨⟨v, by rw [hs.h _ h7]; exact h1, h2.agree (fun id e => hs.h id (by have := h2.1.old; omega)) hs.next, h4, h5⟩, Nat.lt_of_lt_of_le h7 hs.next, Nat.le_trans h8 hs.next⟩
theorem num197 {w n : Nat} {bs : List Nat} (h : WrAt lo S w bs) (hm : bs.length ≤ 800000) (hn : n < 18446744073709551616) : CallW C1 226 [.ptr w 0 0 1, .int .u64 n] S fun r T => WrAt lo T w (bs ++ numB n) ∧ Keep (fun id => id = w) S T := by
  obtain ⟨⟨v, h1, h2, h4, _⟩, h7, _⟩ := id h
  obtain ⟨r, T, ⟨hT, g1, g2⟩, e1⟩ := (num77 (n := n) h2.1 (by omega) hn).ex
  have fin := wr_new h hT g1 g2
  have hw : T.h.get w = some (.row [v] 0 0 false 350) := by rw [hT.h w h7]; exact h1
  refine enterW (pu1 _) (pr1 _ rfl) fn197 rfl ok197 (by simp) fun F hn hs' => ?_
  have s0 := hs' 0
  have s1 := hs' 1
  clear hs'
  simp only [List.getElem?_cons_zero, List.getElem?_cons_succ, Option.getD_some] at s0 s1
  simp [s0, s1, h1, e1, ex1, hw, okW_sl h2.1, g2.1.np, g2.1.cells]
  exact fin
end
end Go.Proofs.YtpgmahedcpepkaaGreatDoor.bk

namespace Go.Proofs.YtpgmahedcpepkaaGreatDoor.bk
open Go Go.Am Go.Proofs.YtpgmahedcpepkaaGreatDoor.dk
open Go.Proofs.YtpgmahedcpepkaaGreatDoor.mod (Val encV encV_len)
set_option linter.unusedVariables false
set_option linter.unusedSimpArgs false

/-- A text as bytes. -/
noncomputable def bytesT (cx : Am.Cx) (s d : TypeId) : Option Nat := match und cx s, und cx d with
  | some _, some (.slice e) => match und cx e with | some (.int .u8) => some e | _ => none
  | _, _ => none
def strOf : AV → Option (List Nat) | .str l => some l | _ => none
@[simp] theorem strOf_str (l : List Nat) : strOf (.str l) = some l := rfl
@[simp] theorem aop_bytes {cx : Am.Cx} {F : Fr} {S : AS} {dst : Option Tmp} {ty : TypeId} {pos : String} {af : Array Edge} {gd : Option (Nat × Bool)} {s d : TypeId} {x : Tmp} {v : AV} {l : List Nat} {e : Nat}
    (hx : sl F x = v) (h : bytesT cx s d = some e) (hv : strOf v = some l) : aop cx F S ⟨dst, .convert s d (.tmp x), ty, pos, af, gd⟩ = .val (.slice S.next 0 0 l.length l.length 1 none) ⟨S.h.set S.next (.row (bytA l) 0 0 true e), S.next + 1⟩ := by
  unfold strOf at hv
  split at hv
  · cases hv
    unfold bytesT at h
    split at h
    · rename_i d1 e' h1 h2
      split at h
      · rename_i h3
        cases h
        unfold aop
        simp only [eval_tmp, hx, h1, h2, h3]
        have hm : mapL (fun n => AV.int .u8 (.ofNat n)) l = bytA l := by
          unfold bytA
          rw [mapL_eq]
          rfl
        rw [hm]
      · cases h
    · cases h
  · cases hv
@[simp] theorem bt9 : bytesT C1 9 38 = some 5 := by kernel_rfl
section
variable {S T : AS} {lo : Nat}
theorem sl_bytes (l : List Nat) : Sl ⟨S.h.set S.next (.row (bytA l) 0 0 true 5), S.next + 1⟩ (.slice S.next 0 0 l.length l.length 1 none) 1 (bytA l) := by
  refine ⟨by simp [isSl, capB], ?_, by simp [sLen, bytA_len], by simp [bnd]⟩
  cases l with
  | nil => simp [rdS, bytA]
  | cons x l =>
    simp [rdS, rd_at, get_set_same, rdO_row, bytA]
    rw [List.take_of_length_le (by simp)]
theorem text240 {w : Nat} {bs s : List Nat} (h : WrAt lo S w bs) (hm : bs.length ≤ 800000) (hs : s.length ≤ 1000) : CallW C1 283 [.ptr w 0 0 1, .str s] S fun r T => WrAt lo T w (bs ++ lenB s) ∧ Keep (fun id => id = w) S T := by
  obtain ⟨⟨v, h1, h2, h4, _⟩, h7, _⟩ := id h
  have hs1 : Sub S ⟨S.h.set S.next (.row (bytA s) 0 0 true 5), S.next + 1⟩ := Go.Proofs.YtpgmahedcpepkaaGreatDoor.mod.sub1
  obtain ⟨r, T, ⟨hT, g1, g2⟩, e1⟩ := (bytes160 (h2.1.toSub hs1) (sl_bytes s) (by omega) (by omega)).ex
  have hT' := hs1.trans hT
  have fin := wr_new h hT' (by have h : S.next + 1 ≤ T.next := hT.next; rcases g1 with h | h; exact .inl h; exact .inr (Nat.lt_of_succ_lt h)) g2
  have hw : T.h.get w = some (.row [v] 0 0 false 350) := by rw [hT'.h w h7]; exact h1
  refine enterW (pu1 _) (pr1 _ rfl) fn240 rfl ok240 (by simp) fun F hn hs' => ?_
  have s0 := hs' 0
  have s1 := hs' 1
  clear hs'
  simp only [List.getElem?_cons_zero, List.getElem?_cons_succ, Option.getD_some] at s0 s1
  simp [s0, s1, h1, e1, ex1, hw, okW_sl h2.1, g2.1.np, g2.1.cells]
  exact fin
def flagB (b : Bool) : List Nat := numB (if b then 1 else 0)
theorem flag264 {w : Nat} {bs : List Nat} (b : Bool) (h : WrAt lo S w bs) (hm : bs.length ≤ 800000) : CallW C1 322 [.ptr w 0 0 1, .bool b] S fun r T => WrAt lo T w (bs ++ flagB b) ∧ Keep (fun id => id = w) S T := by
  cases b with
  | true =>
    obtain ⟨r, T, h1, e1⟩ := (num197 (n := 1) h hm (by omega)).ex
    refine enterW (pu1 _) (pr1 _ rfl) fn264 rfl ok264 (by simp) fun F hn hs' => ?_
    have s0 := hs' 0
    have s1 := hs' 1
    clear hs'
    simp only [List.getElem?_cons_zero, List.getElem?_cons_succ, Option.getD_some] at s0 s1
    simp only [Int.ofNat_one, Int.cast_ofNat_Int] at e1
    simp [s0, s1, e1, ex1]
    exact h1
  | false =>
    obtain ⟨r, T, h1, e1⟩ := (num197 (n := 0) h hm (by omega)).ex
    refine enterW (pu1 _) (pr1 _ rfl) fn264 rfl ok264 (by simp) fun F hn hs' => ?_
    have s0 := hs' 0
    have s1 := hs' 1
    clear hs'
    simp only [List.getElem?_cons_zero, List.getElem?_cons_succ, Option.getD_some] at s0 s1
    simp only [Int.ofNat_zero, Int.cast_ofNat_Int] at e1
    simp [s0, s1, e1, ex1]
    exact h1
noncomputable def bodyB (a : Val) : List Nat := if a.kind = 1 then numB (zigN a.num) else if a.kind = 2 then lenB a.str else if a.kind = 3 then flagB a.bool else []
noncomputable def valueB (a : Val) : List Nat := numB (uN a.kind) ++ bodyB a
/-- A value that an argument may be. -/
def ValOk (a : Val) : Prop := -9223372036854775808 ≤ a.num ∧ a.num < 9223372036854775808 ∧ a.str.length ≤ 32
theorem nt241 : Tryz.f284.ntmps = 35 := by kernel_rfl
set_option maxRecDepth 20000 in
theorem value241 {w : Nat} {bs : List Nat} (a : Val) (h : WrAt lo S w bs) (hm : bs.length ≤ 700000) (ha : ValOk a) : CallW C1 284 [.ptr w 0 0 1, .agg (encV a)] S fun r T => WrAt lo T w (bs ++ valueB a) ∧ Keep (fun id => id = w) S T := by
  have hS1 : Sub S ⟨S.h.set S.next (.row (encV a) 0 0 false 24), S.next + 1⟩ := Go.Proofs.YtpgmahedcpepkaaGreatDoor.mod.sub1
  have h1 := h.sub hS1
  have hk := uN_lt a.kind
  obtain ⟨r, T, ⟨g1, g2⟩, e1⟩ := (num197 (n := uN a.kind) h1 (by omega) hk).ex
  rw [← uN_eq] at e1
  have hnb : (numB (uN a.kind)).length ≤ 10 := numB_len 9 _ (by omega)
  have hlt := h.lt
  have hK : Keep (fun id => id = w) S T := (hS1.keep).trans g2
  have hTn : S.next + 1 ≤ T.next := g2.next
  have g0 : T.h.get S.next = some (.row (encV a) 0 0 false 24) := by rw [g2.h _ (Nat.lt_succ_self _) (by omega)]; exact get_set_same _ _ _
  obtain ⟨⟨v, q1, q2, q3, _⟩, q5, _⟩ := id g1
  have c1 : ¬ w = S.next := by omega
  obtain ⟨n1, n2, n3⟩ := ha
  simp only [encV] at g0 h1
  unfold valueB bodyB
  rw [← List.append_assoc]
  refine enterW (pu1 _) (pr1 _ rfl) fn241 rfl ok241 (by simp) fun F hn hs' => ?_
  rw [nt241] at hn
  have s0 := hs' 0
  have s1 := hs' 1
  clear hs'
  simp only [List.getElem?_cons_zero, List.getElem?_cons_succ, Option.getD_some, encV] at s0 s1
  by_cases k1 : a.kind = 1
  · obtain ⟨r, U, ⟨hU, p1, p2⟩, e2⟩ := (int263 (n := a.num) q2.1 (by rw [List.length_append]; omega) n1 n2).ex
    have fin := wr_new g1 hU p1 p2
    have hw : U.h.get w = some (.row [v] 0 0 false 350) := by rw [hU.h w q5]; exact q1
    have g0' : U.h.get S.next = some (.row [.int .i64 a.kind, .int .i64 a.num, .str a.str, .bool a.bool] 0 0 false 24) := by rw [hU.h _ (by omega)]; exact g0
    simp only [encV] at e1
    rw [k1] at e1 s1 g0 fin
    simp only [k1] at g0'
    simp [s0, s1, e1, g0, k1, hn, ex1]
    refine draws [.p, .p, .p, .p, .r 0 0, .p, .r 0 0, .e [], .p, .p, .e []] (n := 35) (by kernel_rfl) (by simp [hn]) ?_
    simp [s0, s1, q1, g0, e2, hw, ex1, okW_sl q2.1, okW_sl p2.1, p2.1.np, p2.1.cells]
    rw [List.append_assoc] at fin
    exact ⟨fin.1, hK.trans fin.2⟩
  · by_cases k2 : a.kind = 2
    · obtain ⟨r, U, ⟨p1, p2⟩, e2⟩ := (text240 (s := a.str) g1 (by rw [List.length_append]; omega) (by omega)).ex
      simp only [encV] at e1
      rw [k2] at e1 s1 g0 p1
      simp [s0, s1, e1, e2, g0, k2, hn, ex1]
      rw [List.append_assoc] at p1
      exact ⟨p1, hK.trans p2⟩
    · by_cases k3 : a.kind = 3
      · obtain ⟨r, U, ⟨p1, p2⟩, e2⟩ := (flag264 a.bool g1 (by rw [List.length_append]; omega)).ex
        simp only [encV] at e1
        rw [k3] at e1 s1 g0 p1
        simp [s0, s1, e1, e2, g0, k3, hn, ex1]
        rw [List.append_assoc] at p1
        exact ⟨p1, hK.trans p2⟩
      · simp only [encV] at e1
        simp [s0, s1, e1, g0, k1, k2, k3, hn, ex1]
        exact ⟨g1, hK⟩
end
end Go.Proofs.YtpgmahedcpepkaaGreatDoor.bk
