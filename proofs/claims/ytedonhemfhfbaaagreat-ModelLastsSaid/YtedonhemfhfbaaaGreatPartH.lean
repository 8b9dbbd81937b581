/-
  Numbers and texts, laid as bytes: that they end, and how much they lay.
  Texts and signed numbers, laid as bytes; the writer.
  The writer: values, events; a name's bytes.
  The writer: events.
  Names; which events may be.
  Which events may be.
  An item's size: that it ends.
-/
import Derived.Test.YtedonhemfhfbaaaGreatPartE
namespace Go.Proofs.YtedonhemfhfbaaaGreat.mod
open Go Go.Am
set_option linter.unusedVariables false
set_option linter.unusedSimpArgs false

theorem ok3 : codeOk C0 Tryz.f3.ntmps (Tryz.f3.body.getD .skip) = true := by kernel_rfl
@[simp] theorem cv5_3 : convT C0 5 3 = some .i64 := by kernel_rfl
@[simp] theorem st65 : slT C0 65 = some (68, 3, 24) := by kernel_rfl
@[simp] theorem ag68 : aggOf C0 68 = some true := by kernel_rfl
@[simp] theorem sz68 : szOf C0 68 = some 3 := by kernel_rfl
@[simp] theorem ze68 : zeroOf C0 68 = some (.agg [.int .u64 0, .int .u64 0, .bool false]) := by kernel_rfl
@[simp] theorem fa68_2 : fieldAt C0 68 2 = some 2 := by kernel_rfl
@[simp] theorem fa68_0 : fieldAt C0 68 0 = some 0 := by kernel_rfl
@[simp] theorem fa68_1 : fieldAt C0 68 1 = some 1 := by kernel_rfl
@[simp] theorem st66 : slT C0 66 = some (31, 1, 8) := by kernel_rfl
@[simp] theorem ag66 : aggOf C0 66 = some false := by kernel_rfl
@[simp] theorem un66 : und C0 66 = some (.slice 31) := by kernel_rfl
theorem fn6 : C0.fns.get 6 = some Tryz.f6 := by kernel_rfl
theorem ok6 : codeOk C0 Tryz.f6.ntmps (Tryz.f6.body.getD .skip) = true := by kernel_rfl
@[simp] theorem fa60_5 : fieldAt C0 60 5 = some 5 := by kernel_rfl
@[simp] theorem cv31_3 : convT C0 31 3 = some .i64 := by kernel_rfl
@[simp] theorem fa60_8 : fieldAt C0 60 8 = some 9 := by kernel_rfl
@[simp] theorem ag30 : aggOf C0 30 = some true := by kernel_rfl
@[simp] theorem sz30 : szOf C0 30 = some 3 := by kernel_rfl
theorem fn9 : C0.fns.get 9 = some Tryz.f9 := by kernel_rfl
theorem ok9 : codeOk C0 Tryz.f9.ntmps (Tryz.f9.body.getD .skip) = true := by kernel_rfl
theorem fn24 : C0.fns.get 24 = some Tryz.f24 := by kernel_rfl
theorem ok24 : codeOk C0 Tryz.f24.ntmps (Tryz.f24.body.getD .skip) = true := by kernel_rfl
@[simp] theorem ag122 : aggOf C0 122 = some true := by kernel_rfl
@[simp] theorem sz122 : szOf C0 122 = some 8 := by kernel_rfl
@[simp] theorem fa126_2 : fieldAt C0 126 2 = some 9 := by kernel_rfl
@[simp] theorem ag124 : aggOf C0 124 = some true := by kernel_rfl
@[simp] theorem sz124 : szOf C0 124 = some 4 := by kernel_rfl
@[simp] theorem fa126_3 : fieldAt C0 126 3 = some 13 := by kernel_rfl
theorem fn28 : C0.fns.get 28 = some Tryz.f28 := by kernel_rfl
theorem ok28 : codeOk C0 Tryz.f28.ntmps (Tryz.f28.body.getD .skip) = true := by kernel_rfl
theorem fn31 : C0.fns.get 31 = some Tryz.f31 := by kernel_rfl
theorem ok31 : codeOk C0 Tryz.f31.ntmps (Tryz.f31.body.getD .skip) = true := by kernel_rfl
theorem fn32 : C0.fns.get 32 = some Tryz.f32 := by kernel_rfl
theorem ok32 : codeOk C0 Tryz.f32.ntmps (Tryz.f32.body.getD .skip) = true := by kernel_rfl
theorem fn64 : C0.fns.get 64 = some Tryz.f64 := by kernel_rfl
theorem ok64 : codeOk C0 Tryz.f64.ntmps (Tryz.f64.body.getD .skip) = true := by kernel_rfl
@[simp] theorem fa30_0 : fieldAt C0 30 0 = some 0 := by kernel_rfl
@[simp] theorem fa30_1 : fieldAt C0 30 1 = some 1 := by kernel_rfl
@[simp] theorem fa30_2 : fieldAt C0 30 2 = some 2 := by kernel_rfl
@[simp] theorem st192 : slT C0 192 = some (3, 1, 8) := by kernel_rfl
@[simp] theorem ag192 : aggOf C0 192 = some false := by kernel_rfl
theorem fn65 : C0.fns.get 65 = some Tryz.f65 := by kernel_rfl
theorem ok65 : codeOk C0 Tryz.f65.ntmps (Tryz.f65.body.getD .skip) = true := by kernel_rfl
@[simp] theorem st117 : slT C0 117 = some (42, 4, 56) := by kernel_rfl
@[simp] theorem ag117 : aggOf C0 117 = some false := by kernel_rfl
@[simp] theorem un117 : und C0 117 = some (.slice 42) := by kernel_rfl
theorem fn66 : C0.fns.get 66 = some Tryz.f66 := by kernel_rfl
theorem ok66 : codeOk C0 Tryz.f66.ntmps (Tryz.f66.body.getD .skip) = true := by kernel_rfl
@[simp] theorem ze31 : zeroOf C0 31 = some (.int .u64 0) := by kernel_rfl
theorem fn67 : C0.fns.get 67 = some Tryz.f67 := by kernel_rfl
theorem ok67 : codeOk C0 Tryz.f67.ntmps (Tryz.f67.body.getD .skip) = true := by kernel_rfl
theorem fn68 : C0.fns.get 68 = some Tryz.f68 := by kernel_rfl
theorem ok68 : codeOk C0 Tryz.f68.ntmps (Tryz.f68.body.getD .skip) = true := by kernel_rfl
theorem fn89 : C0.fns.get 89 = some Tryz.f89 := by kernel_rfl
theorem ok89 : codeOk C0 Tryz.f89.ntmps (Tryz.f89.body.getD .skip) = true := by kernel_rfl
theorem fn92 : C0.fns.get 92 = some Tryz.f92 := by kernel_rfl
theorem ok92 : codeOk C0 Tryz.f92.ntmps (Tryz.f92.body.getD .skip) = true := by kernel_rfl
theorem fn121 : C0.fns.get 121 = some Tryz.f121 := by kernel_rfl
theorem ok121 : codeOk C0 Tryz.f121.ntmps (Tryz.f121.body.getD .skip) = true := by kernel_rfl
theorem fn122 : C0.fns.get 122 = some Tryz.f122 := by kernel_rfl
theorem ok122 : codeOk C0 Tryz.f122.ntmps (Tryz.f122.body.getD .skip) = true := by kernel_rfl
theorem fn123 : C0.fns.get 123 = some Tryz.f123 := by kernel_rfl
theorem ok123 : codeOk C0 Tryz.f123.ntmps (Tryz.f123.body.getD .skip) = true := by kernel_rfl
@[simp] theorem sz217 : szOf C0 217 = some 3 := by kernel_rfl
@[simp] theorem ze217 : zeroOf C0 217 = some (.agg [.nilf, .nilf, .nilf]) := by kernel_rfl
@[simp] theorem sz117 : szOf C0 117 = some 1 := by kernel_rfl
theorem fn148 : C0.fns.get 148 = some Tryz.f148 := by kernel_rfl
theorem ok148 : codeOk C0 Tryz.f148.ntmps (Tryz.f148.body.getD .skip) = true := by kernel_rfl
theorem fn149 : C0.fns.get 149 = some Tryz.f149 := by kernel_rfl
theorem ok149 : codeOk C0 Tryz.f149.ntmps (Tryz.f149.body.getD .skip) = true := by kernel_rfl
theorem fn150 : C0.fns.get 150 = some Tryz.f150 := by kernel_rfl
theorem ok150 : codeOk C0 Tryz.f150.ntmps (Tryz.f150.body.getD .skip) = true := by kernel_rfl
theorem fn151 : C0.fns.get 151 = some Tryz.f151 := by kernel_rfl
theorem ok151 : codeOk C0 Tryz.f151.ntmps (Tryz.f151.body.getD .skip) = true := by kernel_rfl
theorem fn152 : C0.fns.get 152 = some Tryz.f152 := by kernel_rfl
theorem ok152 : codeOk C0 Tryz.f152.ntmps (Tryz.f152.body.getD .skip) = true := by kernel_rfl
theorem fn153 : C0.fns.get 153 = some Tryz.f153 := by kernel_rfl
theorem ok153 : codeOk C0 Tryz.f153.ntmps (Tryz.f153.body.getD .skip) = true := by kernel_rfl
theorem fn154 : C0.fns.get 154 = some Tryz.f154 := by kernel_rfl
theorem ok154 : codeOk C0 Tryz.f154.ntmps (Tryz.f154.body.getD .skip) = true := by kernel_rfl
theorem fn155 : C0.fns.get 155 = some Tryz.f155 := by kernel_rfl
theorem ok155 : codeOk C0 Tryz.f155.ntmps (Tryz.f155.body.getD .skip) = true := by kernel_rfl
theorem fn187 : C0.fns.get 187 = some Tryz.f187 := by kernel_rfl
theorem ok187 : codeOk C0 Tryz.f187.ntmps (Tryz.f187.body.getD .skip) = true := by kernel_rfl
@[simp] theorem st258 : slT C0 258 = some (5, 1, 1) := by kernel_rfl
theorem fn188 : C0.fns.get 188 = some Tryz.f188 := by kernel_rfl
theorem ok188 : codeOk C0 Tryz.f188.ntmps (Tryz.f188.body.getD .skip) = true := by kernel_rfl
@[simp] theorem st219 : slT C0 219 = some (215, 1, 8) := by kernel_rfl
@[simp] theorem ag215 : aggOf C0 215 = some false := by kernel_rfl
@[simp] theorem sz215 : szOf C0 215 = some 1 := by kernel_rfl
theorem fn213 : C0.fns.get 213 = some Tryz.f213 := by kernel_rfl
theorem ok213 : codeOk C0 Tryz.f213.ntmps (Tryz.f213.body.getD .skip) = true := by kernel_rfl
theorem fn224 : C0.fns.get 224 = some Tryz.f224 := by kernel_rfl
theorem ok224 : codeOk C0 Tryz.f224.ntmps (Tryz.f224.body.getD .skip) = true := by kernel_rfl
@[simp] theorem ag258 : aggOf C0 258 = some false := by kernel_rfl
@[simp] theorem fa278_0 : fieldAt C0 278 0 = some 0 := by kernel_rfl
@[simp] theorem sz258 : szOf C0 258 = some 1 := by kernel_rfl
theorem fn225 : C0.fns.get 225 = some Tryz.f225 := by kernel_rfl
theorem ok225 : codeOk C0 Tryz.f225.ntmps (Tryz.f225.body.getD .skip) = true := by kernel_rfl
@[simp] theorem ze107 : zeroOf C0 107 = some (.agg [.str [], .int .i64 0, .int .i64 0, .str [], .bool false]) := by kernel_rfl
theorem fn226 : C0.fns.get 226 = some Tryz.f226 := by kernel_rfl
theorem ok226 : codeOk C0 Tryz.f226.ntmps (Tryz.f226.body.getD .skip) = true := by kernel_rfl
theorem fn227 : C0.fns.get 227 = some Tryz.f227 := by kernel_rfl
theorem ok227 : codeOk C0 Tryz.f227.ntmps (Tryz.f227.body.getD .skip) = true := by kernel_rfl
theorem fn232 : C0.fns.get 232 = some Tryz.f232 := by kernel_rfl
theorem ok232 : codeOk C0 Tryz.f232.ntmps (Tryz.f232.body.getD .skip) = true := by kernel_rfl
theorem fn233 : C0.fns.get 233 = some Tryz.f233 := by kernel_rfl
theorem ok233 : codeOk C0 Tryz.f233.ntmps (Tryz.f233.body.getD .skip) = true := by kernel_rfl
theorem fn234 : C0.fns.get 234 = some Tryz.f234 := by kernel_rfl
theorem ok234 : codeOk C0 Tryz.f234.ntmps (Tryz.f234.body.getD .skip) = true := by kernel_rfl
theorem fn235 : C0.fns.get 235 = some Tryz.f235 := by kernel_rfl
theorem ok235 : codeOk C0 Tryz.f235.ntmps (Tryz.f235.body.getD .skip) = true := by kernel_rfl
theorem fn240 : C0.fns.get 240 = some Tryz.f240 := by kernel_rfl
theorem ok240 : codeOk C0 Tryz.f240.ntmps (Tryz.f240.body.getD .skip) = true := by kernel_rfl
theorem fn241 : C0.fns.get 241 = some Tryz.f241 := by kernel_rfl
theorem ok241 : codeOk C0 Tryz.f241.ntmps (Tryz.f241.body.getD .skip) = true := by kernel_rfl
theorem fn242 : C0.fns.get 242 = some Tryz.f242 := by kernel_rfl
theorem ok242 : codeOk C0 Tryz.f242.ntmps (Tryz.f242.body.getD .skip) = true := by kernel_rfl
@[simp] theorem un258 : und C0 258 = some (.slice 5) := by kernel_rfl
theorem fn243 : C0.fns.get 243 = some Tryz.f243 := by kernel_rfl
theorem ok243 : codeOk C0 Tryz.f243.ntmps (Tryz.f243.body.getD .skip) = true := by kernel_rfl
@[simp] theorem cv31_5 : convT C0 31 5 = some .u8 := by kernel_rfl
theorem fn244 : C0.fns.get 244 = some Tryz.f244 := by kernel_rfl
theorem ok244 : codeOk C0 Tryz.f244.ntmps (Tryz.f244.body.getD .skip) = true := by kernel_rfl
theorem fn245 : C0.fns.get 245 = some Tryz.f245 := by kernel_rfl
theorem ok245 : codeOk C0 Tryz.f245.ntmps (Tryz.f245.body.getD .skip) = true := by kernel_rfl
theorem fn246 : C0.fns.get 246 = some Tryz.f246 := by kernel_rfl
theorem ok246 : codeOk C0 Tryz.f246.ntmps (Tryz.f246.body.getD .skip) = true := by kernel_rfl
@[simp] theorem ag5 : aggOf C0 5 = some false := by kernel_rfl
@[simp] theorem sz5 : szOf C0 5 = some 1 := by kernel_rfl
theorem fn247 : C0.fns.get 247 = some Tryz.f247 := by kernel_rfl
theorem ok247 : codeOk C0 Tryz.f247.ntmps (Tryz.f247.body.getD .skip) = true := by kernel_rfl
theorem fn248 : C0.fns.get 248 = some Tryz.f248 := by kernel_rfl
theorem ok248 : codeOk C0 Tryz.f248.ntmps (Tryz.f248.body.getD .skip) = true := by kernel_rfl
@[simp] theorem cv2_31 : convT C0 2 31 = some .u64 := by kernel_rfl

/-! ### Bits -/
theorem bits_int (op : BinOp) (k : IntKind) (a b : Int) : ∃ m : Int, bitsI op k a b = .int k m := by
  unfold bitsI
  split
  · exact ⟨_, by rw [forceI_eq]⟩
  · rename_i op' a b _
    cases (Nat.blt a (half k) && Nat.blt b (half k)) with
    | true => exact ⟨_, by rw [cond_true, forceN_eq]⟩
    | false => exact ⟨_, by rw [cond_false, forceI_eq]⟩
  · exact ⟨_, by rw [forceI_eq]⟩
theorem binV_and (k : IntKind) (a b : Int) (t : TypeId) : ∃ m : Int, ∀ c, binV C0 .and t c (.int k a) (.int k b) = some (.int k m) := by
  obtain ⟨m, h⟩ := bits_int .and k a b
  refine ⟨m, fun c => ?_⟩
  show cond (kindEq k k) (some (bitsI .and k a b)) none = _
  rw [h, kind_self]; rfl
theorem binV_or (k : IntKind) (a b : Int) (t : TypeId) : ∃ m : Int, ∀ c, binV C0 .or t c (.int k a) (.int k b) = some (.int k m) := by
  obtain ⟨m, h⟩ := bits_int .or k a b
  refine ⟨m, fun c => ?_⟩
  show cond (kindEq k k) (some (bitsI .or k a b)) none = _
  rw [h, kind_self]; rfl
theorem u64_wrap (n : Int) : 0 ≤ IntKind.u64.wrap n ∧ IntKind.u64.wrap n < 18446744073709551616 := by
  simp [IntKind.wrap, IntKind.bits, IntKind.signed]; omega
theorem bits_u64 (a b : Nat) (ha : a < 18446744073709551616) (hb : b < 18446744073709551616) : ∃ m : Nat, m < 18446744073709551616 ∧ bitsI .xor .u64 a b = .int .u64 m := by
  show ∃ m : Nat, m < 18446744073709551616 ∧ cond (Nat.blt a (half .u64) && Nat.blt b (half .u64)) (forceN (Nat.xor a b) fun n => AV.int .u64 (Int.ofNat n)) (forceI (bitsS .xor .u64 a b) fun n => AV.int .u64 n) = AV.int .u64 m
  cases (Nat.blt a (half .u64) && Nat.blt b (half .u64)) with
  | true => exact ⟨a ^^^ b, Nat.xor_lt_two_pow (n := 64) ha hb, by rw [cond_true, forceN_eq]; rfl⟩
  | false =>
    have h := u64_wrap (((BitVec.ofInt 64 a) ^^^ (BitVec.ofInt 64 b)).toNat : Int)
    refine ⟨(IntKind.u64.wrap (((BitVec.ofInt 64 a) ^^^ (BitVec.ofInt 64 b)).toNat : Int)).toNat, by omega, ?_⟩
    rw [cond_false, forceI_eq, Int.toNat_of_nonneg h.1]
    rfl
theorem binV_shr (n : Nat) (t : TypeId) (c : Bool) : binV C0 .shr t c (.int .u64 n) (.int .u64 7) = some (.int .u64 ((n / 128 : Nat) : Int)) := by
  show some (forceI (Int.fdiv (n : Int) (.ofNat (Nat.pow 2 (Nat.min 7 IntKind.u64.bits)))) fun n => AV.int .u64 n) = _
  rw [forceI_eq]
  have : Nat.pow 2 (Nat.min 7 IntKind.u64.bits) = 128 := by decide
  rw [this]
  have h2 : (n : Int).fdiv (Int.ofNat 128) = ((n / 128 : Nat) : Int) := by
    show (n : Int).fdiv 128 = _
    rw [Int.fdiv_eq_ediv_of_nonneg _ (by decide)]
    omega
  rw [h2]
theorem cloneG247 {S : AS} {v : AV} {cs : List AV} (h : Sl S v 1 cs) (hf : sLen v ≤ 1048576) : CallW C0 247 [v] S fun v' T => Sub S T ∧ Gw T v' 1 5 cs ∧ sLen v' = sLen v ∧ (bnd v' = 0 ∨ S.next < bnd v') := by
  refine enterW (pu0 _) (pr0 _ rfl) fn247 rfl ok247 (by simp) fun F hn hs => ?_
  have s0 := hs 0
  clear hs
  simp only [List.getElem?_cons_zero, Option.getD_some] at s0
  have h2 := h.sl
  cases hnil : isNil v with
  | true =>
    obtain ⟨rfl, rfl⟩ := h.isNil hnil
    simp [s0, Sub.refl, Gw.nil, bnd]
  | false =>
    have hx : Sl (⟨S.h.set S.next (.row [] 0 0 false 5), S.next + 1⟩ : AS) v 1 cs := ⟨h2, by rw [rdS_set h.old]; exact h.rd, h.len, Nat.le_succ_of_le h.old⟩
    have hfit : fits (sLen (.slice S.next 0 0 0 0 1 (some 0)) + sLen v) 1 = true := by simp [fits, nble, sLen_slice]; omega
    obtain ⟨v', T, e1, r1, r2, r3, r4, r5, r6, r7⟩ := append_gw (ts := []) st258 un258 rfl (Gw.fresh (get_set_same _ _ _) (Nat.lt_succ_self _)) hx hfit
    rw [List.nil_append] at r1
    have hsub : Sub S T := ⟨fun id hi => by rw [r2 id (Nat.lt_succ_of_lt hi) (by simp [bnd]; omega)]; exact get_set_ne _ _ (by omega), Nat.le_trans (Nat.le_succ _) r3⟩
    have r4' : sLen v' = sLen v := by rw [r4]; simp [sLen_slice]
    simp [s0, h2, hnil, e1, r1.1.np, hsub, r1]
    refine ⟨r4', ?_⟩
    rcases r6 with r6 | r6
    · rw [r6]; exact .inr (Nat.lt_succ_self _)
    · exact .inr (Nat.lt_of_succ_lt r6)
/-- A byte more. -/
theorem app_byte {S' : AS} {v : AV} {cs : List AV} {lo : Nat} (x : AV) (hg : Gw S' v 1 5 cs) (hl : cs.length ≤ 1048576) (hb : bnd v = 0 ∨ lo < bnd v) (hlo : lo ≤ S'.next) :
    ∃ v' T, builtinV C0 ⟨S'.h.set S'.next (.row [x] 0 0 false 5), S'.next + 1⟩ .append [258, 258] [v, .slice S'.next 0 0 1 1 1 (some 1)] = .val v' T ∧ Gw T v' 1 5 (cs ++ [x]) ∧ (∀ id, id < lo → T.h.get id = S'.h.get id) ∧ S'.next ≤ T.next ∧ (bnd v' = 0 ∨ lo < bnd v') := by
  have hold := hg.1.old
  have hx : Sl (⟨S'.h.set S'.next (.row [x] 0 0 false 5), S'.next + 1⟩ : AS) (.slice S'.next 0 0 1 1 1 (some 1)) 1 [x] :=
    ⟨by simp [isSl, capB], by simp [rdS, rd_at], by simp [sLen], by simp [bnd]⟩
  have hgT : Gw (⟨S'.h.set S'.next (.row [x] 0 0 false 5), S'.next + 1⟩ : AS) v 1 5 cs := hg.agree (fun id e => get_set_ne _ _ (by omega)) (Nat.le_succ _)
  have hlen := hg.1.len1
  obtain ⟨v', V, e2, r1, r2, r3, r4, r5, r6, r7⟩ := append_gw (ts := []) (u := 258) (p := (5, 1, 1)) st258 un258 rfl hgT hx (by rw [hlen]; simp [fits, nble, sLen_slice]; omega)
  refine ⟨v', V, e2, r1, fun id hid => ?_, by have : S'.next + 1 ≤ V.next := r3; omega, ?_⟩
  · rw [r2 id (by show id < S'.next + 1; omega) (by omega)]
    exact get_set_ne _ _ (by omega)
  · rcases r6 with r6 | r6
    · rw [r6]; exact hb
    · right
      have : S'.next + 1 < bnd v' := r6
      omega
theorem nt243 : Tryz.f243.ntmps = 26 := by kernel_rfl
def numH (S : AS) (len k : Nat) (F' : Fr) (S' : AS) : Prop :=
  ∃ (v : AV) (cs : List AV) (j : Nat), Gw S' v 1 5 cs ∧ Sub S S' ∧ (bnd v = 0 ∨ S.next < bnd v) ∧ cs.length + (j + 1) ≤ len + 10 ∧ k < 128 ^ (j + 1) ∧ sl F' 5 = v ∧ sl F' 1 = .int .u64 k
theorem numH_mk {S : AS} {len k : Nat} {F' : Fr} {S' : AS} {v : AV} {cs : List AV} {j : Nat} (h1 : Gw S' v 1 5 cs) (h2 : Sub S S') (h3 : bnd v = 0 ∨ S.next < bnd v) (h4 : cs.length + (j + 1) ≤ len + 10) (h5 : k < 128 ^ (j + 1)) (h6 : sl F' 5 = v) (h7 : sl F' 1 = .int .u64 k) : numH S len k F' S' := ⟨v, cs, j, h1, h2, h3, h4, h5, h6, h7⟩
theorem num243 {S : AS} {b : AV} {cs : List AV} {n : Nat} (h : Sl S b 1 cs) (hl : cs.length ≤ 1000000) (hn : n < 18446744073709551616) :
    CallW C0 243 [b, .int .u64 n] S fun r T => Sub S T ∧ (bnd r = 0 ∨ S.next < bnd r) ∧ ∃ cs', Gw T r 1 5 cs' ∧ cs'.length ≤ cs.length + 10 := by
  obtain ⟨v, T, ⟨hT, g1, g2, g3⟩, e1⟩ := (cloneG247 h (by rw [h.len1]; omega)).ex
  refine enterW (pu0 _) (pr0 _ rfl) fn243 rfl ok243 (by simp) fun F hn' hs => ?_
  rw [nt243] at hn'
  have s0 := hs 0
  have s1 := hs 1
  clear hs
  simp only [List.getElem?_cons_zero, List.getElem?_cons_succ, Option.getD_some] at s0 s1
  simp [s0, s1, e1, ex0]
  refine loopP_of (numH S cs.length) n (numH_mk (j := 9) g1 hT g3 (by omega) (by omega) (by simp) (by simp [s1])) ?_
  clear s0 s1 e1 g1 g2 g3 hT h
  rintro k F' S' hn'' ⟨v, cs1, j, g, hsub, hb, hlen, hk, t5, t1⟩
  clear hn'' hn'
  obtain ⟨m, em⟩ := binV_and .u64 k 127 31
  have hsh := fun c => binV_shr k 31 c
  obtain ⟨m2, em2⟩ := binV_or .u8 (IntKind.u8.wrap m) 128 5
  by_cases h0 : k / 128 = 0
  · obtain ⟨v', V, e2, q1, q2, q3, q4⟩ := app_byte (.int .u8 (IntKind.u8.wrap m)) g (by omega) hb hsub.next
    simp [t5, t1, em, hsh, h0, e2, okW_sl g.1]
    exact ⟨q1.1.np, ⟨fun id hid => (q2 id hid).trans (hsub.h id hid), Nat.le_trans hsub.next q3⟩, q4, _, q1, by rw [List.length_append]; show cs1.length + 1 ≤ _; omega⟩
  · obtain ⟨v', V, e2, q1, q2, q3, q4⟩ := app_byte (.int .u8 m2) g (by omega) hb hsub.next
    have h0' : ¬ ((k : Int) / 128 = 0) := by omega
    have hj : 1 ≤ j := by
      rcases Nat.eq_zero_or_pos j with rfl | h
      · rw [Nat.zero_add, Nat.pow_one] at hk; omega
      · exact h
    obtain ⟨i, rfl⟩ : ∃ i, j = i + 1 := ⟨j - 1, by omega⟩
    simp [t5, t1, em, em2, hsh, h0, h0', e2, okW_sl g.1]
    refine ⟨k / 128, by omega, numH_mk (j := i) q1 ⟨fun id hid => (q2 id hid).trans (hsub.h id hid), Nat.le_trans hsub.next q3⟩ q4 (by rw [List.length_append]; show cs1.length + 1 + (i + 1) ≤ _; omega) ?_ (by simp) (by simp)⟩
    rw [Nat.div_lt_iff_lt_mul (by omega)]
    rw [Nat.pow_succ] at hk
    exact hk
end Go.Proofs.YtedonhemfhfbaaaGreat.mod

namespace Go.Proofs.YtedonhemfhfbaaaGreat.mod
open Go Go.Am
set_option linter.unusedVariables false
set_option linter.unusedSimpArgs false

def byB (l : List Nat) : List AV := l.map fun n : Nat => AV.int .u8 (n : Int)
theorem byB_len (l : List Nat) : (byB l).length = l.length := by simp [byB]
/-- A text as bytes. -/
noncomputable def bytesT (cx : Am.Cx) (s d : TypeId) : Option Nat := match und cx s, und cx d with
  | some _, some (.slice e) => match und cx e with | some (.int .u8) => some e | _ => none
  | _, _ => none
def strOf : AV → Option (List Nat) | .str l => some l | _ => none
@[simp] theorem strOf_str (l : List Nat) : strOf (.str l) = some l := rfl
@[simp] theorem aop_bytes {cx : Am.Cx} {F : Fr} {S : AS} {dst : Option Tmp} {ty : TypeId} {pos : String} {af : Array Edge} {gd : Option (Nat × Bool)} {s d : TypeId} {x : Tmp} {v : AV} {l : List Nat} {e : Nat}
    (hx : sl F x = v) (h : bytesT cx s d = some e) (hv : strOf v = some l) : aop cx F S ⟨dst, .convert s d (.tmp x), ty, pos, af, gd⟩ = .val (.slice S.next 0 0 l.length l.length 1 none) ⟨S.h.set S.next (.row (byB l) 0 0 false e), S.next + 1⟩ := by
  unfold strOf at hv
  split at hv
  · cases hv
    unfold bytesT at h
    split at h
    · rename_i d1 e' h1 h2
      split at h
      · rename_i h3
        cases h
        unfold aop
        simp only [eval_tmp, hx, h1, h2, h3]
        have hm : mapL (fun n => AV.int .u8 (.ofNat n)) l = byB l := by
          unfold byB
          rw [mapL_eq]
          rfl
        rw [hm]
      · cases h
    · cases h
  · cases hv
@[simp] theorem bt9 : bytesT C0 9 258 = some 5 := by kernel_rfl
theorem sl_bytes {S : AS} (l : List Nat) : Sl ⟨S.h.set S.next (.row (byB l) 0 0 false 5), S.next + 1⟩ (.slice S.next 0 0 l.length l.length 1 none) 1 (byB l) := by
  refine ⟨by simp [isSl, capB], ?_, by simp [sLen, byB_len], by simp [bnd]⟩
  cases l with
  | nil => simp [rdS, byB]
  | cons x l =>
    simp [rdS, rd_at, get_set_same, rdO_row, byB]
    rw [List.take_of_length_le (by simp)]
theorem bytes242 {S : AS} {b s : AV} {cs ds : List AV} (h : Sl S b 1 cs) (hs : Sl S s 1 ds) (hl : cs.length ≤ 900000) (hd : ds.length ≤ 1000) :
    CallW C0 242 [b, s] S fun r T => Sub S T ∧ (bnd r = 0 ∨ S.next < bnd r) ∧ ∃ cs', Gw T r 1 5 cs' ∧ cs'.length ≤ cs.length + 10 + ds.length := by
  have hsl := hs.len1
  obtain ⟨r, T, ⟨hT, g1, cs1, g2, g3⟩, e1⟩ := (num243 (n := ds.length) h (by omega) (by omega)).ex
  obtain ⟨v', V, e2, r1, r2, r3, r4, r5, r6, r7⟩ := append_gw (ts := []) (u := 258) (p := (5, 1, 1)) st258 un258 rfl g2 (hs.toSub hT) (by rw [g2.1.len1, hsl]; simp [fits, nble]; omega)
  have hw := u64_nat (n := ds.length) (by omega)
  refine enterW (pu0 _) (pr0 _ rfl) fn242 rfl ok242 (by simp) fun F hn hs' => ?_
  have s0 := hs' 0
  have s1 := hs' 1
  clear hs'
  simp only [List.getElem?_cons_zero, List.getElem?_cons_succ, Option.getD_some] at s0 s1
  have u1 := hs.sl
  simp [s0, s1, u1, hsl, hw, e1, e2, ex0, r1.1.np]
  refine ⟨⟨fun id hid => ?_, Nat.le_trans hT.next r3⟩, ?_, _, r1, by rw [List.length_append]; omega⟩
  · have := hT.next
    rw [r2 id (by omega) (by omega)]
    exact hT.h id hid
  · rcases r6 with r6 | r6
    · rw [r6]; exact g1
    · right; have := hT.next; omega
theorem mkI_wrap (k : IntKind) (n : Int) : mkI k n = .int k (k.wrap n) := by
  unfold mkI
  rw [forceI_eq, wrapF_eq]
theorem binV_shl (a : Int) (t : TypeId) : ∃ m : Nat, m < 18446744073709551616 ∧ ∀ c, binV C0 .shl t c (.int .u64 a) (.int .u64 1) = some (.int .u64 m) := by
  have h := u64_wrap (Int.mul a (.ofNat (Nat.pow 2 (Nat.min 1 IntKind.u64.bits))))
  refine ⟨(IntKind.u64.wrap (Int.mul a (.ofNat (Nat.pow 2 (Nat.min 1 IntKind.u64.bits))))).toNat, by omega, fun c => ?_⟩
  show some (mkI .u64 (Int.mul a (.ofNat (Nat.pow 2 (Nat.min 1 IntKind.u64.bits))))) = _
  rw [mkI_wrap, Int.toNat_of_nonneg h.1]
theorem binV_shr63 (n : Int) (t : TypeId) : ∃ m : Int, ∀ c, binV C0 .shr t c (.int .i64 n) (.int .u64 63) = some (.int .i64 m) :=
  ⟨Int.fdiv n (.ofNat (Nat.pow 2 (Nat.min 63 IntKind.i64.bits))), fun c => by
    show some (forceI (Int.fdiv n (.ofNat (Nat.pow 2 (Nat.min 63 IntKind.i64.bits)))) fun n => AV.int .i64 n) = _
    rw [forceI_eq]⟩
theorem binV_xor (a b : Nat) (t : TypeId) (ha : a < 18446744073709551616) (hb : b < 18446744073709551616) : ∃ m : Nat, m < 18446744073709551616 ∧ ∀ c, binV C0 .xor t c (.int .u64 a) (.int .u64 b) = some (.int .u64 m) := by
  obtain ⟨m, h1, h2⟩ := bits_u64 a b ha hb
  refine ⟨m, h1, fun c => ?_⟩
  show cond (kindEq .u64 .u64) (some (bitsI .xor .u64 a b)) none = _
  rw [h2]; rfl
theorem zig248 {S : AS} (n : Int) : CallW C0 248 [.int .i64 n] S fun r T => T = S ∧ ∃ m : Nat, m < 18446744073709551616 ∧ r = .int .u64 m := by
  obtain ⟨m1, h1, e1⟩ := binV_shl (IntKind.u64.wrap n) 31
  obtain ⟨m2, e2⟩ := binV_shr63 n 2
  have h2 := u64_wrap m2
  obtain ⟨m3, h3, e3⟩ := binV_xor m1 (IntKind.u64.wrap m2).toNat 31 h1 (by omega)
  rw [Int.toNat_of_nonneg h2.1] at e3
  refine enterW (pu0 _) (pr0 _ rfl) fn248 rfl ok248 (by simp) fun F hn hs => ?_
  have s0 := hs 0
  clear hs
  simp only [List.getElem?_cons_zero, Option.getD_some] at s0
  simp [s0, e1, e2, e3]
  exact ⟨m3, h3, rfl⟩
theorem int244 {S : AS} {b : AV} {cs : List AV} (n : Int) (h : Sl S b 1 cs) (hl : cs.length ≤ 1000000) :
    CallW C0 244 [b, .int .i64 n] S fun r T => Sub S T ∧ (bnd r = 0 ∨ S.next < bnd r) ∧ ∃ cs', Gw T r 1 5 cs' ∧ cs'.length ≤ cs.length + 10 := by
  obtain ⟨r, T, ⟨rfl, m, hm, rfl⟩, e1⟩ := (zig248 (S := S) n).ex
  obtain ⟨r, T, h1, e2⟩ := (num243 (n := m) h hl hm).ex
  refine enterW (pu0 _) (pr0 _ rfl) fn244 rfl ok244 (by simp) fun F hn hs' => ?_
  have s0 := hs' 0
  have s1 := hs' 1
  clear hs'
  simp only [List.getElem?_cons_zero, List.getElem?_cons_succ, Option.getD_some] at s0 s1
  have hnp : isPanB r = false := by obtain ⟨_, _, _, h, _⟩ := h1; exact h.1.np
  simp [s0, s1, e1, e2, ex0, hnp]
  exact h1

/-! ### The writer -/
structure WrAt (S : AS) (w m : Nat) : Prop where
  ex : ∃ v cs, S.h.get w = some (.row [v] 0 0 false 278) ∧ Gw S v 1 5 cs ∧ bnd v ≠ w + 1 ∧ cs.length ≤ m
  lt : w < S.next
/-- New bytes are laid. -/
theorem wr_new {S T : AS} {w m : Nat} {v' : AV} {cs' : List AV} (h : WrAt S w m) (hT : Sub S T) (hb : bnd v' = 0 ∨ S.next < bnd v') (hg : Gw T v' 1 5 cs') {k : Nat} (hl : cs'.length ≤ k) :
    WrAt ⟨T.h.set w (.row [v'] 0 0 false 278), T.next⟩ w k ∧ Keep (fun id => id = w) S ⟨T.h.set w (.row [v'] 0 0 false 278), T.next⟩ := by
  have h2 := h.lt
  have h3 := hT.next
  refine ⟨⟨⟨v', cs', get_set_same _ _ _, hg.agree (fun id e => get_set_ne _ _ (by omega)) (Nat.le_refl _), by omega, hl⟩, by show w < T.next; omega⟩, ⟨fun id hid ha => ?_, h3⟩⟩
  show (T.h.set w _).get id = _
  rw [get_set_ne _ _ ha]
  exact hT.h id hid
theorem WrAt.mono {S : AS} {w m k : Nat} (h : WrAt S w m) (hk : m ≤ k) : WrAt S w k := by
  obtain ⟨⟨v, cs, h1, h2, h4, h5⟩, h7⟩ := h
  exact ⟨⟨v, cs, h1, h2, h4, Nat.le_trans h5 hk⟩, h7⟩
theorem WrAt.sub {S T : AS} {w m : Nat} (h : WrAt S w m) (hs : Sub S T) : WrAt T w m := by
  obtain ⟨⟨v, cs, h1, h2, h4, h5⟩, h7⟩ := h
  refine ⟨⟨v, cs, by rw [hs.h _ h7]; exact h1, h2.agree (fun id e => hs.h id (by have := h2.1.old; omega)) hs.next, h4, h5⟩, Nat.lt_of_lt_of_le h7 hs.next⟩
theorem num234 {S : AS} {w m n : Nat} (h : WrAt S w m) (hm : m ≤ 100000) (hn : n < 18446744073709551616) : CallW C0 234 [.ptr w 0 0 1, .int .u64 n] S fun r T => WrAt T w (m + 10) ∧ Keep (fun id => id = w) S T := by
  obtain ⟨⟨v, cs, h1, h2, h4, h5⟩, h7⟩ := id h
  obtain ⟨r, T, ⟨hT, g1, cs1, g2, g3⟩, e1⟩ := (num243 (n := n) h2.1 (by omega) hn).ex
  have fin := wr_new (k := m + 10) h hT g1 g2 (by omega)
  have hw : T.h.get w = some (.row [v] 0 0 false 278) := by rw [hT.h w h7]; exact h1
  refine enterW (pu0 _) (pr0 _ rfl) fn234 rfl ok234 (by simp) fun F hn hs' => ?_
  have s0 := hs' 0
  have s1 := hs' 1
  clear hs'
  simp only [List.getElem?_cons_zero, List.getElem?_cons_succ, Option.getD_some] at s0 s1
  simp [s0, s1, h1, e1, ex0, hw, okW_sl h2.1, g2.1.np, g2.1.cells]
  exact fin
theorem text233 {S : AS} {w m : Nat} {s : List Nat} (h : WrAt S w m) (hm : m ≤ 100000) (hs : s.length ≤ 1000) : CallW C0 233 [.ptr w 0 0 1, .str s] S fun r T => WrAt T w (m + 10 + s.length) ∧ Keep (fun id => id = w) S T := by
  obtain ⟨⟨v, cs, h1, h2, h4, h5⟩, h7⟩ := id h
  have hs1 : Sub S ⟨S.h.set S.next (.row (byB s) 0 0 false 5), S.next + 1⟩ := sub1
  obtain ⟨r, T, ⟨hT, g1, cs1, g2, g3⟩, e1⟩ := (bytes242 (h2.1.toSub hs1) (sl_bytes s) (by omega) (by rw [byB_len]; omega)).ex
  rw [byB_len] at g3
  have hT' := hs1.trans hT
  have fin := wr_new (k := m + 10 + s.length) h hT' (by have h : S.next + 1 ≤ T.next := hT.next; rcases g1 with h | h; exact .inl h; exact .inr (Nat.lt_of_succ_lt h)) g2 (by omega)
  have hw : T.h.get w = some (.row [v] 0 0 false 278) := by rw [hT'.h w h7]; exact h1
  refine enterW (pu0 _) (pr0 _ rfl) fn233 rfl ok233 (by simp) fun F hn hs' => ?_
  have s0 := hs' 0
  have s1 := hs' 1
  clear hs'
  simp only [List.getElem?_cons_zero, List.getElem?_cons_succ, Option.getD_some] at s0 s1
  simp [s0, s1, h1, e1, ex0, hw, okW_sl h2.1, g2.1.np, g2.1.cells]
  exact fin
end Go.Proofs.YtedonhemfhfbaaaGreat.mod

namespace Go.Proofs.YtedonhemfhfbaaaGreat.mod
open Go Go.Am
set_option linter.unusedVariables false
set_option linter.unusedSimpArgs false

theorem flag245 {S : AS} {w m : Nat} (b : Bool) (h : WrAt S w m) (hm : m ≤ 100000) : CallW C0 245 [.ptr w 0 0 1, .bool b] S fun r T => WrAt T w (m + 10) ∧ Keep (fun id => id = w) S T := by
  cases b with
  | true =>
    obtain ⟨r, T, h1, e1⟩ := (num234 (n := 1) h hm (by omega)).ex
    refine enterW (pu0 _) (pr0 _ rfl) fn245 rfl ok245 (by simp) fun F hn hs' => ?_
    have s0 := hs' 0
    have s1 := hs' 1
    clear hs'
    simp only [List.getElem?_cons_zero, List.getElem?_cons_succ, Option.getD_some] at s0 s1
    simp only [Int.ofNat_one, Int.cast_ofNat_Int] at e1
    simp [s0, s1, e1, ex0]
    exact h1
  | false =>
    obtain ⟨r, T, h1, e1⟩ := (num234 (n := 0) h hm (by omega)).ex
    refine enterW (pu0 _) (pr0 _ rfl) fn245 rfl ok245 (by simp) fun F hn hs' => ?_
    have s0 := hs' 0
    have s1 := hs' 1
    clear hs'
    simp only [List.getElem?_cons_zero, List.getElem?_cons_succ, Option.getD_some] at s0 s1
    simp only [Int.ofNat_zero, Int.cast_ofNat_Int] at e1
    simp [s0, s1, e1, ex0]
    exact h1
theorem nt235 : Tryz.f235.ntmps = 35 := by kernel_rfl
set_option maxRecDepth 20000 in
theorem value235 {S : AS} {w m : Nat} (a : Val) (h : WrAt S w m) (hm : m ≤ 90000) (hs : a.str.length ≤ 1000) : CallW C0 235 [.ptr w 0 0 1, .agg (encV a)] S fun r T => WrAt T w (m + 30 + a.str.length) ∧ Keep (fun id => id = w) S T := by
  have hS1 : Sub S ⟨S.h.set S.next (.row (encV a) 0 0 false 102), S.next + 1⟩ := sub1
  have h1 := h.sub hS1
  have hk := u64_wrap a.kind
  obtain ⟨r, T, ⟨g1, g2⟩, e1⟩ := (num234 (n := (IntKind.u64.wrap a.kind).toNat) h1 (by omega) (by omega)).ex
  rw [Int.toNat_of_nonneg hk.1] at e1
  have hlt := h.lt
  have hK : Keep (fun id => id = w) S T := (hS1.keep).trans g2
  have hTn : S.next + 1 ≤ T.next := g2.next
  have g0 : T.h.get S.next = some (.row (encV a) 0 0 false 102) := by rw [g2.h _ (Nat.lt_succ_self _) (by omega)]; exact get_set_same _ _ _
  obtain ⟨⟨v, cs, q1, q2, q3, q4⟩, q5⟩ := id g1
  have c1 : ¬ w = S.next := by omega
  simp only [encV] at g0 h1
  refine enterW (pu0 _) (pr0 _ rfl) fn235 rfl ok235 (by simp) fun F hn hs' => ?_
  rw [nt235] at hn
  have s0 := hs' 0
  have s1 := hs' 1
  clear hs'
  simp only [List.getElem?_cons_zero, List.getElem?_cons_succ, Option.getD_some, encV] at s0 s1
  by_cases k1 : a.kind = 1
  · obtain ⟨r, U, ⟨hU, p1, cs1, p2, p3⟩, e2⟩ := (int244 a.num q2.1 (by omega)).ex
    have fin := wr_new (k := m + 30 + a.str.length) g1 hU p1 p2 (by omega)
    have hw : U.h.get w = some (.row [v] 0 0 false 278) := by rw [hU.h w q5]; exact q1
    have g0' : U.h.get S.next = some (.row [.int .i64 a.kind, .int .i64 a.num, .str a.str, .bool a.bool] 0 0 false 102) := by rw [hU.h _ (by omega)]; exact g0
    simp only [encV] at e1
    rw [k1] at e1 s1 g0
    simp only [k1] at g0'
    simp [s0, s1, e1, g0, k1, hn, ex0]
    refine draws [.p, .p, .p, .p, .r 0 0, .p, .r 0 0, .e [], .p, .p, .e []] (n := 35) (by kernel_rfl) (by simp [hn]) ?_
    simp [s0, s1, q1, g0, e2, hw, ex0, okW_sl q2.1, okW_sl p2.1, p2.1.np, p2.1.cells]
    exact ⟨fin.1, hK.trans fin.2⟩
  · by_cases k2 : a.kind = 2
    · obtain ⟨r, U, ⟨p1, p2⟩, e2⟩ := (text233 (s := a.str) g1 (by omega) hs).ex
      simp only [encV] at e1
      rw [k2] at e1 s1 g0
      simp [s0, s1, e1, e2, g0, k2, hn, ex0]
      exact ⟨p1.mono (by omega), hK.trans p2⟩
    · by_cases k3 : a.kind = 3
      · obtain ⟨r, U, ⟨p1, p2⟩, e2⟩ := (flag245 a.bool g1 (by omega)).ex
        simp only [encV] at e1
        rw [k3] at e1 s1 g0
        simp [s0, s1, e1, e2, g0, k3, hn, ex0]
        exact ⟨p1.mono (by omega), hK.trans p2⟩
      · simp only [encV] at e1
        simp [s0, s1, e1, g0, k1, k2, k3, hn, ex0]
        exact ⟨g1.mono (by omega), hK⟩
end Go.Proofs.YtedonhemfhfbaaaGreat.mod

namespace Go.Proofs.YtedonhemfhfbaaaGreat.mod
open Go Go.Am
set_option linter.unusedVariables false
set_option linter.unusedSimpArgs false

/-- What event.May says, as far as room is asked. -/
def roomA (l : List Att) : Prop := l.length ≤ 8 ∧ ∀ a, a ∈ l → a.name.length ≤ 16 ∧ a.val.str.length ≤ 32
theorem nt227 : Tryz.f227.ntmps = 32 := by kernel_rfl
def evH (S : AS) (w : Nat) (u : AV) (l : List Att) (k : Nat) (F' : Fr) (S' : AS) : Prop :=
  ∃ i : Nat, WrAt S' w (100 + i * 200) ∧ Keep (fun id => id = w) S S' ∧ sl F' 0 = .ptr w 0 0 1 ∧ sl F' 17 = u ∧ sl F' 18 = .int .i64 l.length ∧ sl F' 19 = .int .i64 i ∧ i ≤ l.length ∧ k = l.length - i
theorem evH_mk {S : AS} {w : Nat} {u : AV} {l : List Att} {k : Nat} {F' : Fr} {S' : AS} (i : Nat) (h1 : WrAt S' w (100 + i * 200)) (h2 : Keep (fun id => id = w) S S') (h3 : sl F' 0 = .ptr w 0 0 1) (h4 : sl F' 17 = u) (h5 : sl F' 18 = .int .i64 l.length) (h6 : sl F' 19 = .int .i64 i) (h7 : i ≤ l.length) (h8 : k = l.length - i) : evH S w u l k F' S' :=
  ⟨i, h1, h2, h3, h4, h5, h6, h7, h8⟩
theorem AttsAt.keep {S T : AS} {w : Nat} {u : AV} {l : List Att} (h : AttsAt S u l) (hk : Keep (fun id => id = w) S T) (hw : bnd u ≠ w + 1) : AttsAt T u l :=
  ⟨h.sl.agree (fun id e => hk.h id (by have := h.sl.old; omega) (by omega)) hk.next, h.le⟩
set_option maxRecDepth 20000 in
theorem event227 {S : AS} {w : Nat} {key : List Nat} {u : AV} {l : List Att} (h : WrAt S w 0) (hu : AttsAt S u l) (hw : bnd u ≠ w + 1) (hk : key.length ≤ 16) (hl : roomA l) :
    CallW C0 227 [.ptr w 0 0 1, .agg [.str key, u]] S fun r T => WrAt T w 2000 ∧ Keep (fun id => id = w) S T := by
  have hS1 : Sub S ⟨S.h.set S.next (.row [.str key, u] 0 0 false 40), S.next + 1⟩ := sub1
  have hlt := h.lt
  obtain ⟨r, T, ⟨g1, g2⟩, e1⟩ := (text233 (s := key) (h.sub hS1) (by omega) (by omega)).ex
  obtain ⟨l1, l2⟩ := hl
  obtain ⟨r, T2, ⟨g3, g4⟩, e2⟩ := (num234 (n := l.length) g1 (by omega) (by omega)).ex
  have hTn : S.next + 1 ≤ T.next := g2.next
  have hT2n := g4.next
  have b0 : T.h.get S.next = some (.row [.str key, u] 0 0 false 40) := by rw [g2.h _ (Nat.lt_succ_self _) (by omega)]; exact get_set_same _ _ _
  have b1 : T2.h.get S.next = some (.row [.str key, u] 0 0 false 40) := by rw [g4.h _ (by omega) (by omega)]; exact b0
  have hK : Keep (fun id => id = w) S T2 := ((hS1.keep).trans g2).trans g4
  have hu2 := hu.keep hK hw
  have u1 := hu.sl.sl
  have u2 := hu.sl.len_flat encA_len (by omega)
  have hwr := u64_nat (n := l.length) (by omega)
  have uk := okW_sl hu.sl
  refine enterW (pu0 _) (pr0 _ rfl) fn227 rfl ok227 (by simp) fun F hn hs' => ?_
  rw [nt227] at hn
  have s0 := hs' 0
  have s1 := hs' 1
  clear hs'
  simp only [List.getElem?_cons_zero, List.getElem?_cons_succ, Option.getD_some] at s0 s1
  simp [s0, s1, e1, e2, b0, b1, u1, u2, uk, hwr, ex0, hu.sl.cells]
  refine loopP_of (evH S w u l) l.length (evH_mk 0 (g3.mono (by omega)) hK (by simp [s0]) (by simp) (by simp) (by simp) (Nat.zero_le _) rfl) ?_
  clear g3 g4 hK b0 b1 e1 e2 g1 g2 hT2n hTn hu2
  rintro k F' S' hn' ⟨i, q1, q2, t0, t17, t18, t19, hi, hk'⟩
  clear hn' hn s0 s1
  by_cases hi' : i < l.length
  · have hx : l[i]? = some l[i] := List.getElem?_eq_getElem hi'
    have huS := hu.keep q2 hw
    have hlo := loadT_el (cx := C0) (e := 107) huS.sl encA_len (by omega) hx ag107 sz107
    obtain ⟨m1, m2⟩ := l2 _ (List.getElem_mem hi')
    have hlt' := q1.lt
    have hZ : Sub S' ⟨(S'.h.set S'.next (.row [.str [], .int .i64 0, .int .i64 0, .str [], .bool false] 0 0 false 107)).set S'.next (.row (encA l[i]) 0 0 false 107), S'.next + 1⟩ := ⟨fun id hid => by
      show ((S'.h.set _ _).set _ _).get id = _
      rw [get_set_ne _ _ (by omega), get_set_ne _ _ (by omega)], Nat.le_succ _⟩
    obtain ⟨r, V, ⟨p1, p2⟩, e3⟩ := (text233 (s := l[i].name) (q1.sub hZ) (by omega) (by omega)).ex
    obtain ⟨r, W, ⟨p3, p4⟩, e4⟩ := (value235 l[i].val p1 (by omega) (by omega)).ex
    have b2 : V.h.get S'.next = some (.row (encA l[i]) 0 0 false 107) := by rw [p2.h _ (Nat.lt_succ_self _) (by omega)]; exact get_set_same _ _ _
    have hK2 : Keep (fun id => id = w) S W := ((q2.trans hZ.keep).trans p2).trans p4
    have hwi := wrap_succ (i := i) (by omega)
    simp only [encA, encV] at hlo e3 e4 b2
    simp [t0, t17, t18, t19, u1, u2, hi', hlo, e3, e4, b2, ex0, hwi]
    exact ⟨l.length - (i + 1), by omega, evH_mk (i + 1) (p3.mono (by omega)) hK2 (by simp [t0]) (by simp [t17]) (by simp [t18]) (by simp) hi' rfl⟩
  · simp [t0, t17, t18, t19, hi']
    exact ⟨q1.mono (by omega), q2⟩
end Go.Proofs.YtedonhemfhfbaaaGreat.mod

namespace Go.Proofs.YtedonhemfhfbaaaGreat.mod
open Go Go.Am
set_option linter.unusedVariables false
set_option linter.unusedSimpArgs false

noncomputable def nameC (n : Nat) : Bool := (decide ((n : Int) < 97) || decide (122 < (n : Int))) && (decide ((n : Int) < 48) || decide (57 < (n : Int))) && !decide ((n : Int) = 45) && !decide ((n : Int) = 46) && !decide ((n : Int) = 95)
theorem name240 {S : AS} (n : Nat) : CallW C0 240 [.int .u8 n] S fun r T => r = .bool (nameC n) ∧ Sub S T := by
  refine enterW (pu0 _) (pr0 _ rfl) fn240 rfl ok240 (by simp) fun F hn hs => ?_
  have s0 := hs 0
  clear hs
  simp only [List.getElem?_cons_zero, Option.getD_some] at s0
  unfold nameC
  by_cases a1 : (n : Int) < 97 <;> by_cases a2 : 122 < (n : Int) <;> by_cases a3 : (n : Int) < 48 <;> by_cases a4 : 57 < (n : Int) <;> by_cases a5 : (n : Int) = 45 <;> by_cases a6 : (n : Int) = 46 <;> by_cases a7 : (n : Int) = 95 <;>
    first | (exfalso; omega) | simp [s0, a1, a2, a3, a4, a5, a6, a7, Sub.refl]
theorem idx246 {S : AS} {u : AV} {l : List Nat} {f : FuncId} {caps : List AV} {P : Nat → Bool} (h : Sl S u 1 (byB l)) (hb : l.length ≤ 9223372036854775807) (hf : (f == 228) = false)
    (hc : ∀ T, Sub S T → ∀ x, x ∈ l → CallW C0 f (.int .u8 (x : Int) :: caps) T fun v T' => v = .bool (P x) ∧ Sub T T') :
    CallW C0 246 [u, .func (.func f) [] caps] S fun v T => v = .int .i64 (idxI P l) ∧ Sub S T := by
  refine enterW (pu0 _) (pr0 _ rfl) fn246 rfl ok246 (by simp) fun F hn hs => ?_
  have s0 := hs 0
  have s1 := hs 1
  clear hs
  simp only [List.getElem?_cons_zero, List.getElem?_cons_succ, Option.getD_some] at s0 s1
  have u1 := h.sl
  have u2 : sLen u = l.length := by rw [h.len1, byB_len]
  simp [s0, s1, u1, u2]
  refine loopP_of (idxH S u (.func (.func f) [] caps) l P) l.length (idxH_mk 0 (Sub.refl S) (by simp [s0]) (by simp [s1]) (by simp) (by simp) (Nat.zero_le _) rfl (by simp)) ?_
  rintro k F' S' hn' ⟨i, hsub, t0, t1, t7, t8, hi, hk, ha⟩
  clear hn' s0 s1 hn
  by_cases hi' : i < l.length
  · have hx : l[i]? = some l[i] := List.getElem?_eq_getElem hi'
    have hl := loadT_sl (cx := C0) (e := 5) (h.toSub hsub) (k := i) (x := .int .u8 (l[i] : Int)) (by unfold byB; rw [List.getElem?_map, hx]; rfl) ag5
    obtain ⟨v, T', ⟨rfl, hs⟩, e⟩ := (hc S' hsub l[i] (List.getElem_mem hi')).ex
    cases hp : P l[i] with
    | true => simp [t0, t1, t7, t8, u1, u2, hi', hl, e, hp, ex0 f hf, hsub.trans hs, idxI_at hx hp ha]
    | false =>
      simp [t0, t1, t7, t8, u1, u2, hi', hl, e, hp, ex0 f hf]
      exact ⟨l.length - (i + 1), by omega, idxH_mk (i + 1) (hsub.trans hs) (by simp [t0]) (by simp [t1]) (by simp [t7]) (by simp [wrap_succ (show i < 9223372036854775807 by omega)]) hi' rfl (take_step hx hp ha)⟩
  · have hall : ∀ x, x ∈ l → P x = false := fun x hx => ha x (by rw [List.take_of_length_le (by omega)]; exact hx)
    simp [t7, t8, hi', idxI_none hall, hsub]
theorem con241 {S : AS} {u : AV} {l : List Nat} {f : FuncId} {caps : List AV} {P : Nat → Bool} (h : Sl S u 1 (byB l)) (hb : l.length ≤ 9223372036854775807) (hf : (f == 228) = false)
    (hc : ∀ T, Sub S T → ∀ x, x ∈ l → CallW C0 f (.int .u8 (x : Int) :: caps) T fun v T' => v = .bool (P x) ∧ Sub T T') :
    CallW C0 241 [u, .func (.func f) [] caps] S fun v T => v = .bool (l.any P) ∧ Sub S T := by
  obtain ⟨v, T, ⟨rfl, hs⟩, e⟩ := (idx246 h hb hf hc).ex
  refine enterW (pu0 _) (pr0 _ rfl) fn241 rfl ok241 (by simp) fun F hn hs => ?_
  have s0 := hs 0
  have s1 := hs 1
  clear hs
  simp only [List.getElem?_cons_zero, List.getElem?_cons_succ, Option.getD_some] at s0 s1
  simp [s0, s1, e, ex0, hs, idxI_any]
noncomputable def nameB (s : List Nat) : Bool := !decide (s = []) && decide ((s.length : Int) ≤ 16) && !s.any nameC
theorem name232 {S : AS} (s : List Nat) : CallW C0 232 [.str s] S fun r T => r = .bool (nameB s) ∧ Sub S T := by
  have hs1 : Sub S ⟨S.h.set S.next (.row (byB s) 0 0 false 5), S.next + 1⟩ := sub1
  refine enterW (pu0 _) (pr0 _ rfl) fn232 rfl ok232 (by simp) fun F hn hs => ?_
  have s0 := hs 0
  clear hs
  simp only [List.getElem?_cons_zero, Option.getD_some] at s0
  unfold nameB
  by_cases h1 : s = []
  · subst h1
    simp [s0, eqS_eq, Sub.refl]
  by_cases h2 : (s.length : Int) ≤ 16
  · obtain ⟨r, T, ⟨rfl, hT⟩, e⟩ := (con241 (f := 240) (caps := []) (P := nameC) (sl_bytes (S := S) s) (by omega) rfl (fun T hT x hx => name240 x)).ex
    simp [s0, eqS_eq, h1, h2, e, ex0, hs1.trans hT, len_str un9]
  · simp [s0, eqS_eq, h1, h2, Sub.refl, len_str un9]
end Go.Proofs.YtedonhemfhfbaaaGreat.mod

namespace Go.Proofs.YtedonhemfhfbaaaGreat.mod
open Go Go.Am
set_option linter.unusedVariables false
set_option linter.unusedSimpArgs false

theorem mayV_len {v : Val} (h : mayV v = true) : v.str.length ≤ 32 := by
  unfold mayV at h
  split at h
  · rw [sameB_eq, decide_eq_true_eq] at h
    rw [h]; simp
  · split at h
    · simp only [Bool.and_eq_true, decide_eq_true_eq] at h
      exact h.2
    · split at h
      · rw [sameB_eq, decide_eq_true_eq] at h
        rw [h]; simp
      · cases h
theorem nameB_len {s : List Nat} (h : nameB s = true) : s.length ≤ 16 := by
  unfold nameB at h
  simp only [Bool.and_eq_true, decide_eq_true_eq] at h
  omega
@[simp] theorem binS_geq {a b : List Nat} : binS .geq a b = some (.bool (!ltS a b)) := rfl
theorem nt225 : Tryz.f225.ntmps = 50 := by kernel_rfl
def okA (a : Att) : Prop := a.name.length ≤ 16 ∧ a.val.str.length ≤ 32
def mayH (S1 : AS) (b : Nat) (u : AV) (l : List Att) (k : Nat) (F' : Fr) (S' : AS) : Prop :=
  ∃ i : Nat, Sub S1 S' ∧ (∀ a, a ∈ l.take i → okA a) ∧ sl F' 1 = .ptr b 0 0 2 ∧ sl F' 6 = u ∧ sl F' 7 = .int .i64 l.length ∧ sl F' 8 = .int .i64 i ∧ i ≤ l.length ∧ k = l.length - i
theorem mayH_mk {S1 : AS} {b : Nat} {u : AV} {l : List Att} {k : Nat} {F' : Fr} {S' : AS} (i : Nat) (h1 : Sub S1 S') (h2 : ∀ a, a ∈ l.take i → okA a) (h3 : sl F' 1 = .ptr b 0 0 2) (h4 : sl F' 6 = u) (h5 : sl F' 7 = .int .i64 l.length) (h6 : sl F' 8 = .int .i64 i) (h7 : i ≤ l.length) (h8 : k = l.length - i) : mayH S1 b u l k F' S' :=
  ⟨i, h1, h2, h3, h4, h5, h6, h7, h8⟩
set_option maxRecDepth 20000 in
theorem evMay225 {S : AS} {key : List Nat} {u : AV} {l : List Att} (hu : AttsAt S u l) :
    CallW C0 225 [.agg [.str key, u]] S fun r T => ∃ b : Bool, r = .bool b ∧ Sub S T ∧ (b = true → key.length ≤ 16 ∧ roomA l) := by
  have hS1 : Sub S ⟨S.h.set S.next (.row [.str key, u] 0 0 false 40), S.next + 1⟩ := sub1
  have u1 := hu.sl.sl
  have u2 := hu.sl.len_flat encA_len (by omega)
  have uk := okW_sl hu.sl
  have hle := hu.le
  have hold := hu.sl.old
  refine enterW (pu0 _) (pr0 _ rfl) fn225 rfl ok225 (by simp) fun F hn hs' => ?_
  rw [nt225] at hn
  have s0 := hs' 0
  clear hs'
  simp only [List.getElem?_cons_zero, Option.getD_some] at s0
  simp [s0, u1, u2, uk, hu.sl.cells]
  refine loopP_of (mayH ⟨S.h.set S.next (.row [.str key, u] 0 0 false 40), S.next + 1⟩ S.next u l) l.length (mayH_mk 0 (Sub.refl _) (by simp) (by simp) (by simp) (by simp) (by simp) (Nat.zero_le _) rfl) ?_
  rintro k F' S' hn' ⟨i, q2, qa, t1, t6, t7, t8, hi, hk'⟩
  have hn2 : F'.n = 50 := by rw [hn']; simp [hn]
  clear hn' hn s0
  have hSn : S.next + 1 ≤ S'.next := q2.next
  have gb : S'.h.get S.next = some (.row [.str key, u] 0 0 false 40) := by rw [q2.h _ (Nat.lt_succ_self _)]; exact get_set_same _ _ _
  by_cases hi' : i < l.length
  · have hx : l[i]? = some l[i] := List.getElem?_eq_getElem hi'
    have huS := hu.sub (hS1.trans q2)
    have hlo := loadT_el (cx := C0) (e := 107) huS.sl encA_len (by omega) hx ag107 sz107
    have hZ : Sub S' ⟨(S'.h.set S'.next (.row [.str [], .int .i64 0, .int .i64 0, .str [], .bool false] 0 0 false 107)).set S'.next (.row (encA l[i]) 0 0 false 107), S'.next + 1⟩ := ⟨fun id hid => by
      show ((S'.h.set _ _).set _ _).get id = _
      rw [get_set_ne _ _ (by omega), get_set_ne _ _ (by omega)], Nat.le_succ _⟩
    obtain ⟨r, T1, ⟨rfl, hT1⟩, e1⟩ := (name232 (S := ⟨(S'.h.set S'.next (.row [.str [], .int .i64 0, .int .i64 0, .str [], .bool false] 0 0 false 107)).set S'.next (.row (encA l[i]) 0 0 false 107), S'.next + 1⟩) l[i].name).ex
    obtain ⟨r, T2, ⟨rfl, hT2⟩, e2⟩ := (mayIs l[i].val T1).ex
    have hT1n : S'.next + 1 ≤ T1.next := hT1.next
    have hT2n := hT2.next
    have c0 : (⟨(S'.h.set S'.next (.row [.str [], .int .i64 0, .int .i64 0, .str [], .bool false] 0 0 false 107)).set S'.next (.row (encA l[i]) 0 0 false 107), S'.next + 1⟩ : AS).h.get S'.next = some (.row (encA l[i]) 0 0 false 107) := get_set_same _ _ _
    have c1 : T1.h.get S'.next = some (.row (encA l[i]) 0 0 false 107) := by rw [hT1.h _ (Nat.lt_succ_self _)]; exact c0
    have c2 : T2.h.get S'.next = some (.row (encA l[i]) 0 0 false 107) := by rw [hT2.h _ (by omega)]; exact c1
    have hZ1 := hZ.trans hT1
    have hZ2 := hZ1.trans hT2
    have gb2 : T2.h.get S.next = some (.row [.str key, u] 0 0 false 40) := by rw [hZ2.h _ (by omega)]; exact gb
    have gb1 : T1.h.get S.next = some (.row [.str key, u] 0 0 false 40) := by rw [hZ1.h _ (by omega)]; exact gb
    have hS2 := (hS1.trans q2).trans hZ2
    have hS3 := (hS1.trans q2).trans hZ1
    have hwi := wrap_succ (i := i) (by omega)
    simp only [encA, encV] at hlo e1 e2 c0 c1 c2
    simp [t1, t6, t7, t8, u1, u2, hi', hlo, hn2]
    refine draws [.p, .r 0 0, .e [], .p, .p, .p, .r 0 0, .e [], .p, .p, .p, .p, .p, .p, .p, .r 0 0, .p, .p, .p, .p, .r 0 0, .p, .r 0 0, .p, .p, .p] (n := 50) (by kernel_rfl) (by simp [hn2]) ?_
    cases hb1 : nameB l[i].name with
    | false =>
      rw [hb1] at e1
      simp [t1, t6, t7, t8, e1, ex0, c1, gb1]
      exact hS3
    | true =>
      rw [hb1] at e1
      cases hb2 : mayV l[i].val with
      | false =>
        rw [hb2] at e2
        simp [t1, t6, t7, t8, e1, e2, ex0, c1, c2, gb1, gb2]
        exact hS2
      | true =>
        rw [hb2] at e2
        have hstep : ∀ a, a ∈ l.take (i + 1) → okA a := by
          intro a ha
          rw [List.take_succ_eq_append_getElem hi'] at ha
          rcases List.mem_append.1 ha with ha | ha
          · exact qa a ha
          · simp at ha; subst ha; exact ⟨nameB_len hb1, mayV_len hb2⟩
        by_cases h0 : (i : Int) = 0
        · simp [t1, t6, t7, t8, e1, e2, ex0, c1, c2, gb1, gb2, h0]
          exact ⟨l.length - (i + 1), by omega, mayH_mk (i + 1) (q2.trans hZ2) hstep (by simp [t1]) (by simp [t6]) (by simp [t7]) (by simp [h0]; exact IntWalk.i64_in _ (by omega)) hi' rfl⟩
        · obtain ⟨j, rfl⟩ : ∃ j, i = j + 1 := ⟨i - 1, by omega⟩
          have hj : j < l.length := by omega
          have hu2 := hu.sub hS2
          have hpp := isP_pAt (k := j) u1 (by rw [u2]; exact hj)
          have hlp := loadT_elf (cx := C0) (e := 9) (o := 0) (y := .str l[j].name) hu2.sl encA_len (by omega) (List.getElem?_eq_getElem hj) rfl ag9
          have hwj : IntKind.i64.wrap ((j : Int) + 1 - 1) = (j : Int) := by
            rw [show ((j : Int) + 1 - 1) = (j : Int) by omega]; exact wrap_nat (by omega)
          have hwj' : IntKind.i64.wrap (j : Int) = (j : Int) := wrap_nat (by omega)
          have hgt : (0 : Int) < (j : Int) + 1 := by omega
          simp at hwi
          cases hlt : ltS l[j].name l[j + 1].name with
          | true =>
            simp [t1, t6, t7, t8, e1, e2, ex0, c1, c2, gb1, gb2, h0, hgt, hwj, hwj', u1, u2, uk, hj, fieldP_add hpp, hlp, hlt, hwi]
            exact ⟨l.length - (j + 1 + 1), by omega, mayH_mk (j + 1 + 1) (q2.trans hZ2) hstep (by simp [t1]) (by simp [t6]) (by simp [t7]) (by simp) hi' rfl⟩
          | false =>
            simp [t1, t6, t7, t8, e1, e2, ex0, c1, c2, gb1, gb2, h0, hgt, hwj, hwj', u1, u2, uk, hj, fieldP_add hpp, hlp, hlt, hwi]
            exact hS2
  · have hie : i = l.length := by omega
    subst hie
    rw [List.take_length] at qa
    have hsub := hS1.trans q2
    by_cases k1 : (key.length : Int) ≤ 16
    · by_cases k2 : (l.length : Int) ≤ 8
      · simp [t1, t6, t7, t8, gb, k1, k2, u1, u2, uk, len_str un9]
        exact ⟨hsub, by omega, ⟨by omega, fun a ha => qa a ha⟩⟩
      · simp [t1, t6, t7, t8, gb, k1, k2, u1, u2, uk, len_str un9]
        exact hsub
    · simp [t1, t6, t7, t8, gb, k1, u1, u2, uk, len_str un9]
      exact hsub
end Go.Proofs.YtedonhemfhfbaaaGreat.mod

namespace Go.Proofs.YtedonhemfhfbaaaGreat.mod
open Go Go.Am
set_option linter.unusedVariables false
set_option linter.unusedSimpArgs false

theorem bld278 (id g o n l z : Nat) (c : Option Nat) : buildA C0 278 [(0, .slice id g o n l z c)] = some (.agg [.slice id g o n l z c]) := by kernel_rfl
theorem put226 {S : AS} {w b : Nat} {key : List Nat} {u : AV} {l : List Att} (h : WrAt S w 0) (hb : S.h.get b = some (.row [.str key, u] 0 0 false 40)) (hbl : b < S.next) (hu : AttsAt S u l) (hw : bnd u ≠ w + 1) (hk : key.length ≤ 16) (hl : roomA l) :
    CallW C0 226 [.ptr w 0 0 1, .ptr b 0 0 2] S fun r T => WrAt T w 2000 ∧ Keep (fun id => id = w) S T := by
  obtain ⟨r, T, h1, e1⟩ := (event227 (key := key) h hu hw hk hl).ex
  refine enterW (pu0 _) (pr0 _ rfl) fn226 rfl ok226 (by simp) fun F hn hs' => ?_
  have s0 := hs' 0
  have s1 := hs' 1
  clear hs'
  simp only [List.getElem?_cons_zero, List.getElem?_cons_succ, Option.getD_some] at s0 s1
  simp [s0, s1, hb, e1, ex0, okW_sl hu.sl]
  exact h1
theorem form224 {S : AS} {b : Nat} {key : List Nat} {u : AV} {l : List Att} (t : Bool) (hb : S.h.get b = some (.row [.str key, u] 0 0 false 40)) (hbl : b < S.next) (hu : AttsAt S u l) (ht : t = true → key.length ≤ 16 ∧ roomA l) :
    CallW C0 224 [.bool t, .func (.func 226) [] [.ptr b 0 0 2]] S fun r T => ∃ v cs e, r = .tuple [v, .int .i64 e] ∧ Sl T v 1 cs ∧ cs.length ≤ 2000 ∧ Sub S T := by
  cases t with
  | false =>
    refine enterW (pu0 _) (pr0 _ rfl) fn224 rfl ok224 (by simp) fun F hn hs' => ?_
    have s0 := hs' 0
    have s1 := hs' 1
    clear hs'
    simp only [List.getElem?_cons_zero, List.getElem?_cons_succ, Option.getD_some] at s0 s1
    simp [s0, s1]
    exact ⟨[], Sl.nil, by simp, Sub.refl S⟩
  | true =>
    obtain ⟨k1, k2⟩ := ht rfl
    have h1 : Sub S ⟨(S.h.set S.next (.row [] 0 0 false 5)).set (S.next + 1) (.row [.slice S.next 0 0 0 0 1 (some 0)] 0 0 false 278), S.next + 2⟩ := sub2
    have hold := hu.sl.old
    have hW : WrAt ⟨(S.h.set S.next (.row [] 0 0 false 5)).set (S.next + 1) (.row [.slice S.next 0 0 0 0 1 (some 0)] 0 0 false 278), S.next + 2⟩ (S.next + 1) 0 := by
      refine ⟨⟨_, [], get_set_same _ _ _, Gw.fresh ?_ (by show S.next < S.next + 2; omega), by simp [bnd], Nat.le_refl _⟩, by show S.next + 1 < S.next + 2; omega⟩
      show ((S.h.set _ _).set _ _).get _ = _
      rw [get_set_ne _ _ (by omega)]
      exact get_set_same _ _ _
    obtain ⟨r, T, ⟨⟨⟨v, cs, q1, q2, q3, q4⟩, q5⟩, q6⟩, e1⟩ := (put226 (key := key) hW (by rw [h1.h _ hbl]; exact hb) (by show b < S.next + 2; omega) (hu.sub h1) (by omega) k1 k2).ex
    have hT : Sub S T := ⟨fun id hid => (q6.h id (by show id < S.next + 2; omega) (by omega)).trans (h1.h id hid), Nat.le_trans h1.next q6.next⟩
    refine enterW (pu0 _) (pr0 _ rfl) fn224 rfl ok224 (by simp) fun F hn hs' => ?_
    have s0 := hs' 0
    have s1 := hs' 1
    clear hs'
    simp only [List.getElem?_cons_zero, List.getElem?_cons_succ, Option.getD_some] at s0 s1
    simp [s0, s1, freshV_none st258, bld278, e1, ex0, q1, okW_sl q2.1, q2.1.np]
    exact ⟨cs, q2.1, q4, hT⟩
theorem put213 {S : AS} {key : List Nat} {u : AV} {l : List Att} (hu : AttsAt S u l) :
    CallW C0 213 [.agg [.str key, u]] S fun r T => ∃ v cs e, r = .tuple [v, .int .i64 e] ∧ Sl T v 1 cs ∧ cs.length ≤ 2000 ∧ Sub S T := by
  have h1 : Sub S ⟨S.h.set S.next (.row [.str key, u] 0 0 false 40), S.next + 1⟩ := sub1
  obtain ⟨r, T, ⟨b, rfl, hT, hb⟩, e1⟩ := (evMay225 (key := key) (hu.sub h1)).ex
  have g : T.h.get S.next = some (.row [.str key, u] 0 0 false 40) := by rw [hT.h _ (Nat.lt_succ_self _)]; exact get_set_same _ _ _
  obtain ⟨r, T2, ⟨v, cs, e, rfl, q1, q2, q3⟩, e2⟩ := (form224 b g hT.next (hu.sub (h1.trans hT)) hb).ex
  refine enterW (pu0 _) (pr0 _ rfl) fn213 rfl ok213 (by simp) fun F hn hs' => ?_
  have s0 := hs' 0
  clear hs'
  simp only [List.getElem?_cons_zero, Option.getD_some] at s0
  simp [s0, e1, e2, ex0, okW_sl hu.sl, hu.sl.cells, okW_sl q1, q1.np]
  exact ⟨cs, q1, q2, (h1.trans hT).trans q3⟩
theorem size187 {S : AS} {key : List Nat} {u : AV} {l : List Att} (hu : AttsAt S u l) :
    CallW C0 187 [.agg [.str key, u]] S fun r T => ∃ n : Nat, r = .int .i64 n ∧ n ≤ 2000 ∧ Sub S T := by
  have h1 : Sub S ⟨S.h.set S.next (.row [.str key, u] 0 0 false 40), S.next + 1⟩ := sub1
  obtain ⟨r, T, ⟨v, cs, e, rfl, q1, q2, q3⟩, e1⟩ := (put213 (key := key) (hu.sub h1)).ex
  refine enterW (pu0 _) (pr0 _ rfl) fn187 rfl ok187 (by simp) fun F hn hs' => ?_
  have s0 := hs' 0
  clear hs'
  simp only [List.getElem?_cons_zero, Option.getD_some] at s0
  have u1 := q1.sl
  have u2 := q1.len1
  simp [s0, e1, ex0, okW_sl hu.sl, hu.sl.cells, okW_sl q1, q1.np, u1, u2]
  exact ⟨cs.length, rfl, q2, h1.trans q3⟩
theorem size152 {S : AS} {n t : Nat} {key : List Nat} {u : AV} {l : List Att} (hu : AttsAt S u l) :
    CallW C0 152 [.agg [.int .u64 n, .int .u64 t, .str key, u]] S fun r T => ∃ n : Int, r = .int .i64 n ∧ Sub S T := by
  have h1 : Sub S ⟨S.h.set S.next (.row [.int .u64 n, .int .u64 t, .str key, u] 0 0 false 42), S.next + 1⟩ := sub1
  obtain ⟨r, T, ⟨m, rfl, q1, q2⟩, e1⟩ := (size187 (key := key) (hu.sub h1)).ex
  refine enterW (pu0 _) (pr0 _ rfl) fn152 rfl ok152 (by simp) fun F hn hs' => ?_
  have s0 := hs' 0
  clear hs'
  simp only [List.getElem?_cons_zero, Option.getD_some] at s0
  simp [s0, e1, ex0, okW_sl hu.sl, hu.sl.cells]
  exact h1.trans q2
end Go.Proofs.YtedonhemfhfbaaaGreat.mod
