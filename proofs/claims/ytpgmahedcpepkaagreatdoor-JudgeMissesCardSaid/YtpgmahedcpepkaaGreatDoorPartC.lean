/-
  Which values may be; values alike.
  An event's attribute of a name; what a constraint asks.
  Numbers and texts, laid as bytes: that they end, and how much they lay.
  Names; which events may be.
  Which events may be.
-/
import Derived.Test.YtpgmahedcpepkaaGreatDoorPartA
namespace Go.Proofs.YtpgmahedcpepkaaGreatDoor.mod
open Go Go.Am
set_option linter.unusedVariables false
set_option linter.unusedSimpArgs false

/-- Two values are alike. -/
noncomputable def sameB (a b : Val) : Bool := decide (a.kind = b.kind) && (decide (a.num = b.num) && (eqS a.str b.str && (a.bool == b.bool)))
def andS (a r : Option Bool) : Option Bool := match a with | some true => r | x => x
theorem eqv102 (c : Bool) (a b : Val) : binV C0 .eql 24 c (.agg (encV a)) (.agg (encV b)) = some (.bool (sameB a b)) := by
  obtain ⟨ak, an, ax, ab⟩ := a
  obtain ⟨bk, bn, bx, bb⟩ := b
  refine bin_eql_agg ?_
  have e : eqV C0 24 c (.agg [.int .i64 ak, .int .i64 an, .str ax, .bool ab]) (.agg [.int .i64 bk, .int .i64 bn, .str bx, .bool bb]) =
      andS (some (eqI ak bk)) (andS (some (eqI an bn)) (andS (some (eqS ax bx)) (andS (some (ab == bb)) (some true)))) := by kernel_rfl
  simp only [encV]
  rw [e, eqI_eq, eqI_eq]
  unfold sameB andS
  cases decide (ak = bk) <;> cases decide (an = bn) <;> cases eqS ax bx <;> cases (ab == bb) <;> rfl
theorem eqc102 (c : Bool) (ak an : Int) (ax : List Nat) (ab : Bool) (bk bn : Int) (bx : List Nat) (bb : Bool) :
    binV C0 .eql 24 c (.agg [.int .i64 ak, .int .i64 an, .str ax, .bool ab]) (.agg [.int .i64 bk, .int .i64 bn, .str bx, .bool bb]) = some (.bool (sameB ⟨ak, an, ax, ab⟩ ⟨bk, bn, bx, bb⟩)) := eqv102 c ⟨ak, an, ax, ab⟩ ⟨bk, bn, bx, bb⟩

noncomputable def mayV (v : Val) : Bool :=
  if v.kind = 1 then sameB v ⟨1, v.num, [], false⟩ else if v.kind = 2 then sameB v ⟨2, 0, v.str, false⟩ && decide (v.str.length ≤ 32) else if v.kind = 3 then sameB v ⟨3, 0, [], v.bool⟩ else false
theorem nt158 : Tryz.f232.ntmps = 34 := by kernel_rfl
theorem un9 : und C0 9 = some .string := by kernel_rfl
theorem mayIs (v : Val) (S : AS) : CallW C0 232 [.agg (encV v)] S fun r T => r = .bool (mayV v) ∧ Sub S T := by
  obtain ⟨u, T, ⟨rfl, hT⟩, e⟩ := (has v ⟨S.h.set S.next (.row (encV v) 0 0 false 24), S.next + 1⟩).ex
  have hT2 : Sub S T := Sub.trans sub1 hT
  have g0 : T.h.get S.next = some (.row (encV v) 0 0 false 24) := by
    rw [hT.h _ (Nat.lt_succ_self _)]; exact get_set_same _ _ _
  have hTn : S.next < T.next := hT.next
  refine enterW (pu0 _) (pr0 _ rfl) fn158 rfl ok158 (by simp) fun F hn hs => ?_
  rw [nt158] at hn
  have s0 := hs 0
  clear hs
  obtain ⟨k, n, s, b⟩ := v
  simp only [List.getElem?_cons_zero, List.getElem?_cons_succ, Option.getD_some, encV, hasV] at s0 e g0
  unfold mayV
  by_cases h1 : k = 1
  · subst h1
    obtain ⟨r1, T1, ⟨rfl, hs1⟩, e1⟩ := (number n T).ex
    have g1 : T1.h.get S.next = some (.row [.int .i64 1, .int .i64 n, .str s, .bool b] 0 0 false 24) := by rw [hs1.h _ hTn]; exact g0
    simp [s0, ex0, e, g0, hn]
    refine draws [.r 0 1, .p, .e [], .p, .p] (n := 34) (by kernel_rfl) (by simp [hn]) ?_
    simp [s0, ex0, e, e1, g0, g1, eqc102, hT2.trans hs1]
  by_cases h2 : k = 2
  · subst h2
    simp at e
    obtain ⟨r1, T1, ⟨rfl, hs1⟩, e1⟩ := (word s T).ex
    have g1 : T1.h.get S.next = some (.row [.int .i64 2, .int .i64 n, .str s, .bool b] 0 0 false 24) := by rw [hs1.h _ hTn]; exact g0
    simp [s0, ex0, e, g0, hn]
    refine draws [.r 0 1, .p, .e [], .p, .p, .p, .r 0 0, .p, .p, .p] (n := 34) (by kernel_rfl) (by simp [hn]) ?_
    cases hb : sameB ⟨2, n, s, b⟩ ⟨2, 0, s, false⟩ with
    | true =>
      have c1 : decide (((s.length : Nat) : Int) ≤ 32) = decide (s.length ≤ 32) := by
        by_cases hh : s.length ≤ 32 <;> simp [hh] <;> omega
      simp [s0, ex0, e, e1, g0, g1, eqc102, hb, len_str un9, hT2.trans hs1, c1]
    | false => simp [s0, ex0, e, e1, g0, g1, eqc102, hb, hT2.trans hs1]
  by_cases h3 : k = 3
  · subst h3
    simp at e
    obtain ⟨r1, T1, ⟨rfl, hs1⟩, e1⟩ := (truth b T).ex
    have g1 : T1.h.get S.next = some (.row [.int .i64 3, .int .i64 n, .str s, .bool b] 0 0 false 24) := by rw [hs1.h _ hTn]; exact g0
    simp [s0, ex0, e, g0, hn]
    refine draws [.r 0 1, .p, .e [], .p, .p] (n := 34) (by kernel_rfl) (by simp [hn]) ?_
    simp [s0, ex0, e, e1, g0, g1, eqc102, hT2.trans hs1]
  · simp [h1, h2, h3] at e
    simp [s0, h1, h2, h3, ex0, e, g0, hT2]
end Go.Proofs.YtpgmahedcpepkaaGreatDoor.mod

namespace Go.Proofs.YtpgmahedcpepkaaGreatDoor.mod
open Go Go.Am
set_option linter.unusedVariables false
set_option linter.unusedSimpArgs false

/-! ### Attributes -/
structure Att where
  name : List Nat
  val : Val
def encA (a : Att) : List AV := .str a.name :: encV a.val
theorem encA_len (a : Att) : (encA a).length = 5 := rfl
def zeroV : Val := ⟨0, 0, [], false⟩
noncomputable def getA (l : List Att) (n : List Nat) : Option Val := (l.find? fun a => eqS a.name n).map Att.val
theorem get1 (a : Att) (n : List Nat) (id : Nat) {S : AS} (hid : S.h.get id = some (.row [.str n] 0 0 false 9)) (hlt : id < S.next) :
    CallW C0 300 [.agg (encA a), .ptr id 0 0 1] S fun v T => v = .bool (eqS a.name n) ∧ Sub S T := by
  refine enterW (pu0 _) (pr0 _ rfl) fn130 rfl ok130 (by simp) fun F hn hs => ?_
  have s0 := hs 0
  have s1 := hs 1
  clear hs
  simp only [List.getElem?_cons_zero, List.getElem?_cons_succ, Option.getD_some, encA, encV] at s0 s1
  simp [s0, s1, hid, ne_lt hlt, sub1]
theorem getA_none {l : List Att} {n : List Nat} (h : idxI (fun a : Att => eqS a.name n) l < 0) : getA l n = none := by
  unfold idxI at h
  cases hf : l.findIdx? (fun a : Att => eqS a.name n) with
  | none =>
    have := List.findIdx?_eq_none_iff.1 hf
    unfold getA
    rw [List.find?_eq_none.2 (fun x hx => by simp [this x hx])]
    rfl
  | some i => rw [hf] at h; simp at h; omega
theorem getA_some {l : List Att} {n : List Nat} (h : ¬ idxI (fun a : Att => eqS a.name n) l < 0) : ∃ (i : Nat) (a : Att), idxI (fun a : Att => eqS a.name n) l = i ∧ l[i]? = some a ∧ getA l n = some a.val := by
  unfold idxI at h ⊢
  cases hf : l.findIdx? (fun a : Att => eqS a.name n) with
  | none => rw [hf] at h; exact absurd (by decide) h
  | some i =>
    obtain ⟨hi, hp, ha⟩ := List.findIdx?_eq_some_iff_getElem.1 hf
    refine ⟨i, l[i], rfl, List.getElem?_eq_getElem hi, ?_⟩
    have hfi : l.find? (fun a : Att => eqS a.name n) = some l[i] := List.find?_eq_some_iff_getElem.2 ⟨hp, i, hi, rfl, fun j hj => by simpa using ha j hj⟩
    unfold getA
    rw [hfi]
    rfl
theorem nt78 : Tryz.f257.ntmps = 20 := by kernel_rfl
theorem get {S : AS} {u : AV} {l : List Att} {key n : List Nat} (h : Sl S u 5 (l.flatMap encA)) (hb : l.length ≤ 2513169434843) :
    CallW C0 257 [.agg [.str key, u], .str n] S fun v T => v = .tuple [.agg (encV ((getA l n).getD zeroV)), .bool (getA l n).isSome] ∧ Sub S T := by
  have hS : Sub S ⟨((S.h.set S.next (.row [.str key, u] 0 0 false 33)).set (S.next + 1) (.row [.str n] 0 0 false 9)).set (S.next + 2) (.row [.int .i64 0, .int .i64 0, .str [], .bool false] 0 0 false 24), S.next + 3⟩ :=
    sub2.set _ _ (Nat.le_add_right _ _) _ (Nat.le_succ _)
  obtain ⟨v, T, ⟨rfl, hT⟩, e⟩ := (idx129 (P := fun a : Att => eqS a.name n) (f := 300) (caps := [.ptr (S.next + 1) 0 0 1]) encA_len (h.toSub hS) (by omega) rfl (fun T hT x hx => get1 x n (S.next + 1)
    (by rw [hT.h _ (by show S.next + 1 < S.next + 3; omega)]; simp only [get_set_ne _ _ (show S.next + 1 ≠ S.next + 2 by omega)]; exact get_set_same _ _ _) (by have := hT.next; exact Nat.lt_of_lt_of_le (by show S.next + 1 < S.next + 3; omega) this))).ex
  have hT2 := Sub.trans hS hT
  have g0 : T.h.get S.next = some (.row [.str key, u] 0 0 false 33) := by
    rw [hT.h _ (by show S.next < S.next + 3; omega)]
    simp only [get_set_ne _ _ (show S.next ≠ S.next + 2 by omega), get_set_ne _ _ (show S.next ≠ S.next + 1 by omega)]; exact get_set_same _ _ _
  have g2 : T.h.get (S.next + 2) = some (.row [.int .i64 0, .int .i64 0, .str [], .bool false] 0 0 false 24) := by
    rw [hT.h _ (by show S.next + 2 < S.next + 3; omega)]; exact get_set_same _ _ _
  have hTn : S.next + 3 ≤ T.next := hT.next
  have hl := h.toSub hT2
  have u1 := h.sl
  have u2 := h.len_flat encA_len (by omega)
  refine enterW (pu0 _) (pr0 _ rfl) fn78 rfl ok78 (by simp) fun F hn hs => ?_
  have s0 := hs 0
  have s1 := hs 1
  clear hs
  simp only [List.getElem?_cons_zero, List.getElem?_cons_succ, Option.getD_some] at s0 s1
  by_cases hi : idxI (fun a : Att => eqS a.name n) l < 0
  · have hg := getA_none hi
    simp [s0, s1, h.cells, ex0, e, g0, g2, hi, hg, encV, zeroV]
    exact hT2.set _ _ (Nat.le_add_right _ _) _ (Nat.le_refl _)
  · obtain ⟨i, a, h1, h2, h3⟩ := getA_some hi
    rw [h1] at e
    have hilt : i < l.length := (List.getElem?_eq_some_iff.1 h2).1
    have hp := isP_pAt (k := i) u1 (by rw [u2]; exact hilt)
    have hld := loadT_ela (cx := C0) (e := 24) (o := 1) (n' := 4) hl encA_len (by omega) h2 (by omega) ag102 sz102
    simp [encA] at hld
    have hi0 : ¬ ((i : Int) < 0) := by omega
    simp [s0, s1, h.cells, ex0, e, g0, g2, u1, u2, hilt, fieldP_add hp, hld, h3, encV, hi0]
    exact hT2.set _ _ (Nat.le_add_right _ _) _ (Nat.le_refl _)
end Go.Proofs.YtpgmahedcpepkaaGreatDoor.mod

namespace Go.Proofs.YtpgmahedcpepkaaGreatDoor.mod
open Go Go.Am
set_option linter.unusedVariables false
set_option linter.unusedSimpArgs false

@[simp] theorem cv5_3 : convT C0 5 3 = some .i64 := by kernel_rfl
@[simp] theorem st66 : slT C0 281 = some (30, 1, 8) := by kernel_rfl
@[simp] theorem ag66 : aggOf C0 281 = some false := by kernel_rfl
@[simp] theorem un66 : und C0 281 = some (.slice 30) := by kernel_rfl
@[simp] theorem cv31_3 : convT C0 30 3 = some .i64 := by kernel_rfl
@[simp] theorem ag30 : aggOf C0 35 = some true := by kernel_rfl
@[simp] theorem sz30 : szOf C0 35 = some 3 := by kernel_rfl
theorem fn9 : C0.fns.get 131 = some Tryz.f131 := by kernel_rfl
theorem ok9 : codeOk C0 Tryz.f131.ntmps (Tryz.f131.body.getD .skip) = true := by kernel_rfl
theorem fn24 : C0.fns.get 132 = some Tryz.f132 := by kernel_rfl
theorem ok24 : codeOk C0 Tryz.f132.ntmps (Tryz.f132.body.getD .skip) = true := by kernel_rfl
theorem fn25 : C0.fns.get 85 = some Tryz.f85 := by kernel_rfl
theorem ok25 : codeOk C0 Tryz.f85.ntmps (Tryz.f85.body.getD .skip) = true := by kernel_rfl
@[simp] theorem ag122 : aggOf C0 129 = some true := by kernel_rfl
@[simp] theorem sz122 : szOf C0 129 = some 8 := by kernel_rfl
@[simp] theorem fa126_2 : fieldAt C0 133 2 = some 9 := by kernel_rfl
@[simp] theorem ag124 : aggOf C0 131 = some true := by kernel_rfl
@[simp] theorem sz124 : szOf C0 131 = some 4 := by kernel_rfl
@[simp] theorem fa126_3 : fieldAt C0 133 3 = some 13 := by kernel_rfl
theorem fn28 : C0.fns.get 87 = some Tryz.f87 := by kernel_rfl
theorem ok28 : codeOk C0 Tryz.f87.ntmps (Tryz.f87.body.getD .skip) = true := by kernel_rfl
theorem fn31 : C0.fns.get 88 = some Tryz.f88 := by kernel_rfl
theorem ok31 : codeOk C0 Tryz.f88.ntmps (Tryz.f88.body.getD .skip) = true := by kernel_rfl
theorem fn32 : C0.fns.get 129 = some Tryz.f129 := by kernel_rfl
theorem ok32 : codeOk C0 Tryz.f129.ntmps (Tryz.f129.body.getD .skip) = true := by kernel_rfl
theorem fn64 : C0.fns.get 126 = some Tryz.f126 := by kernel_rfl
theorem ok64 : codeOk C0 Tryz.f126.ntmps (Tryz.f126.body.getD .skip) = true := by kernel_rfl
@[simp] theorem fa30_0 : fieldAt C0 35 0 = some 0 := by kernel_rfl
@[simp] theorem fa30_1 : fieldAt C0 35 1 = some 1 := by kernel_rfl
@[simp] theorem fa30_2 : fieldAt C0 35 2 = some 2 := by kernel_rfl
@[simp] theorem st192 : slT C0 63 = some (3, 1, 8) := by kernel_rfl
@[simp] theorem ag192 : aggOf C0 63 = some false := by kernel_rfl
theorem fn65 : C0.fns.get 201 = some Tryz.f201 := by kernel_rfl
theorem ok65 : codeOk C0 Tryz.f201.ntmps (Tryz.f201.body.getD .skip) = true := by kernel_rfl
@[simp] theorem st117 : slT C0 280 = some (52, 4, 56) := by kernel_rfl
@[simp] theorem ag117 : aggOf C0 280 = some false := by kernel_rfl
@[simp] theorem un117 : und C0 280 = some (.slice 52) := by kernel_rfl
theorem fn66 : C0.fns.get 206 = some Tryz.f206 := by kernel_rfl
theorem ok66 : codeOk C0 Tryz.f206.ntmps (Tryz.f206.body.getD .skip) = true := by kernel_rfl
@[simp] theorem ze31 : zeroOf C0 30 = some (.int .u64 0) := by kernel_rfl
theorem fn67 : C0.fns.get 207 = some Tryz.f207 := by kernel_rfl
theorem ok67 : codeOk C0 Tryz.f207.ntmps (Tryz.f207.body.getD .skip) = true := by kernel_rfl
theorem fn68 : C0.fns.get 208 = some Tryz.f208 := by kernel_rfl
theorem ok68 : codeOk C0 Tryz.f208.ntmps (Tryz.f208.body.getD .skip) = true := by kernel_rfl
theorem fn89 : C0.fns.get 209 = some Tryz.f209 := by kernel_rfl
theorem ok89 : codeOk C0 Tryz.f209.ntmps (Tryz.f209.body.getD .skip) = true := by kernel_rfl
theorem fn92 : C0.fns.get 203 = some Tryz.f203 := by kernel_rfl
theorem ok92 : codeOk C0 Tryz.f203.ntmps (Tryz.f203.body.getD .skip) = true := by kernel_rfl
theorem fn121 : C0.fns.get 199 = some Tryz.f199 := by kernel_rfl
theorem ok121 : codeOk C0 Tryz.f199.ntmps (Tryz.f199.body.getD .skip) = true := by kernel_rfl
theorem fn122 : C0.fns.get 200 = some Tryz.f200 := by kernel_rfl
theorem ok122 : codeOk C0 Tryz.f200.ntmps (Tryz.f200.body.getD .skip) = true := by kernel_rfl
theorem fn123 : C0.fns.get 266 = some Tryz.f266 := by kernel_rfl
theorem ok123 : codeOk C0 Tryz.f266.ntmps (Tryz.f266.body.getD .skip) = true := by kernel_rfl
@[simp] theorem sz217 : szOf C0 378 = some 3 := by kernel_rfl
@[simp] theorem ze217 : zeroOf C0 378 = some (.agg [.nilf, .nilf, .nilf]) := by kernel_rfl
@[simp] theorem sz117 : szOf C0 280 = some 1 := by kernel_rfl
theorem fn148 : C0.fns.get 262 = some Tryz.f262 := by kernel_rfl
theorem ok148 : codeOk C0 Tryz.f262.ntmps (Tryz.f262.body.getD .skip) = true := by kernel_rfl
theorem fn149 : C0.fns.get 304 = some Tryz.f304 := by kernel_rfl
theorem ok149 : codeOk C0 Tryz.f304.ntmps (Tryz.f304.body.getD .skip) = true := by kernel_rfl
theorem fn150 : C0.fns.get 305 = some Tryz.f305 := by kernel_rfl
theorem ok150 : codeOk C0 Tryz.f305.ntmps (Tryz.f305.body.getD .skip) = true := by kernel_rfl
theorem fn151 : C0.fns.get 306 = some Tryz.f306 := by kernel_rfl
theorem ok151 : codeOk C0 Tryz.f306.ntmps (Tryz.f306.body.getD .skip) = true := by kernel_rfl
theorem fn152 : C0.fns.get 307 = some Tryz.f307 := by kernel_rfl
theorem ok152 : codeOk C0 Tryz.f307.ntmps (Tryz.f307.body.getD .skip) = true := by kernel_rfl
theorem fn153 : C0.fns.get 308 = some Tryz.f308 := by kernel_rfl
theorem ok153 : codeOk C0 Tryz.f308.ntmps (Tryz.f308.body.getD .skip) = true := by kernel_rfl
theorem fn154 : C0.fns.get 309 = some Tryz.f309 := by kernel_rfl
theorem ok154 : codeOk C0 Tryz.f309.ntmps (Tryz.f309.body.getD .skip) = true := by kernel_rfl
theorem fn155 : C0.fns.get 310 = some Tryz.f310 := by kernel_rfl
theorem ok155 : codeOk C0 Tryz.f310.ntmps (Tryz.f310.body.getD .skip) = true := by kernel_rfl
theorem fn187 : C0.fns.get 91 = some Tryz.f91 := by kernel_rfl
theorem ok187 : codeOk C0 Tryz.f91.ntmps (Tryz.f91.body.getD .skip) = true := by kernel_rfl
@[simp] theorem st258 : slT C0 38 = some (5, 1, 1) := by kernel_rfl
theorem fn188 : C0.fns.get 364 = some Tryz.f364 := by kernel_rfl
theorem ok188 : codeOk C0 Tryz.f364.ntmps (Tryz.f364.body.getD .skip) = true := by kernel_rfl
@[simp] theorem st219 : slT C0 380 = some (376, 1, 8) := by kernel_rfl
@[simp] theorem ag215 : aggOf C0 376 = some false := by kernel_rfl
@[simp] theorem sz215 : szOf C0 376 = some 1 := by kernel_rfl
theorem fn213 : C0.fns.get 181 = some Tryz.f181 := by kernel_rfl
theorem ok213 : codeOk C0 Tryz.f181.ntmps (Tryz.f181.body.getD .skip) = true := by kernel_rfl
theorem fn224 : C0.fns.get 224 = some Tryz.f224 := by kernel_rfl
theorem ok224 : codeOk C0 Tryz.f224.ntmps (Tryz.f224.body.getD .skip) = true := by kernel_rfl
@[simp] theorem ag258 : aggOf C0 38 = some false := by kernel_rfl
@[simp] theorem fa278_0 : fieldAt C0 350 0 = some 0 := by kernel_rfl
@[simp] theorem sz258 : szOf C0 38 = some 1 := by kernel_rfl
theorem fn225 : C0.fns.get 183 = some Tryz.f183 := by kernel_rfl
theorem ok225 : codeOk C0 Tryz.f183.ntmps (Tryz.f183.body.getD .skip) = true := by kernel_rfl
@[simp] theorem ze107 : zeroOf C0 50 = some (.agg [.str [], .int .i64 0, .int .i64 0, .str [], .bool false]) := by kernel_rfl
theorem fn226 : C0.fns.get 253 = some Tryz.f253 := by kernel_rfl
theorem ok226 : codeOk C0 Tryz.f253.ntmps (Tryz.f253.body.getD .skip) = true := by kernel_rfl
theorem fn227 : C0.fns.get 254 = some Tryz.f254 := by kernel_rfl
theorem ok227 : codeOk C0 Tryz.f254.ntmps (Tryz.f254.body.getD .skip) = true := by kernel_rfl
theorem fn232 : C0.fns.get 255 = some Tryz.f255 := by kernel_rfl
theorem ok232 : codeOk C0 Tryz.f255.ntmps (Tryz.f255.body.getD .skip) = true := by kernel_rfl
theorem fn233 : C0.fns.get 283 = some Tryz.f283 := by kernel_rfl
theorem ok233 : codeOk C0 Tryz.f283.ntmps (Tryz.f283.body.getD .skip) = true := by kernel_rfl
theorem fn234 : C0.fns.get 226 = some Tryz.f226 := by kernel_rfl
theorem ok234 : codeOk C0 Tryz.f226.ntmps (Tryz.f226.body.getD .skip) = true := by kernel_rfl
theorem fn235 : C0.fns.get 284 = some Tryz.f284 := by kernel_rfl
theorem ok235 : codeOk C0 Tryz.f284.ntmps (Tryz.f284.body.getD .skip) = true := by kernel_rfl
theorem fn240 : C0.fns.get 297 = some Tryz.f297 := by kernel_rfl
theorem ok240 : codeOk C0 Tryz.f297.ntmps (Tryz.f297.body.getD .skip) = true := by kernel_rfl
theorem fn241 : C0.fns.get 298 = some Tryz.f298 := by kernel_rfl
theorem ok241 : codeOk C0 Tryz.f298.ntmps (Tryz.f298.body.getD .skip) = true := by kernel_rfl
theorem fn242 : C0.fns.get 155 = some Tryz.f155 := by kernel_rfl
theorem ok242 : codeOk C0 Tryz.f155.ntmps (Tryz.f155.body.getD .skip) = true := by kernel_rfl
@[simp] theorem un258 : und C0 38 = some (.slice 5) := by kernel_rfl
theorem fn243 : C0.fns.get 152 = some Tryz.f152 := by kernel_rfl
theorem ok243 : codeOk C0 Tryz.f152.ntmps (Tryz.f152.body.getD .skip) = true := by kernel_rfl
@[simp] theorem cv31_5 : convT C0 30 5 = some .u8 := by kernel_rfl
theorem fn244 : C0.fns.get 321 = some Tryz.f321 := by kernel_rfl
theorem ok244 : codeOk C0 Tryz.f321.ntmps (Tryz.f321.body.getD .skip) = true := by kernel_rfl
theorem fn245 : C0.fns.get 322 = some Tryz.f322 := by kernel_rfl
theorem ok245 : codeOk C0 Tryz.f322.ntmps (Tryz.f322.body.getD .skip) = true := by kernel_rfl
theorem fn246 : C0.fns.get 339 = some Tryz.f339 := by kernel_rfl
theorem ok246 : codeOk C0 Tryz.f339.ntmps (Tryz.f339.body.getD .skip) = true := by kernel_rfl
@[simp] theorem ag5 : aggOf C0 5 = some false := by kernel_rfl
@[simp] theorem sz5 : szOf C0 5 = some 1 := by kernel_rfl
theorem fn247 : C0.fns.get 228 = some Tryz.f228 := by kernel_rfl
theorem ok247 : codeOk C0 Tryz.f228.ntmps (Tryz.f228.body.getD .skip) = true := by kernel_rfl
theorem fn248 : C0.fns.get 369 = some Tryz.f369 := by kernel_rfl
theorem ok248 : codeOk C0 Tryz.f369.ntmps (Tryz.f369.body.getD .skip) = true := by kernel_rfl
@[simp] theorem cv2_31 : convT C0 2 30 = some .u64 := by kernel_rfl

/-! ### Bits -/
def byB (l : List Nat) : List AV := l.map fun n : Nat => AV.int .u8 (n : Int)
theorem byB_len (l : List Nat) : (byB l).length = l.length := by simp [byB]
/-- A text as bytes. -/
noncomputable def bytesT (cx : Am.Cx) (s d : TypeId) : Option Nat := match und cx s, und cx d with
  | some _, some (.slice e) => match und cx e with | some (.int .u8) => some e | _ => none
  | _, _ => none
def strOf : AV → Option (List Nat) | .str l => some l | _ => none
@[simp] theorem strOf_str (l : List Nat) : strOf (.str l) = some l := rfl
@[simp] theorem aop_bytes {cx : Am.Cx} {F : Fr} {S : AS} {dst : Option Tmp} {ty : TypeId} {pos : String} {af : Array Edge} {gd : Option (Nat × Bool)} {s d : TypeId} {x : Tmp} {v : AV} {l : List Nat} {e : Nat}
    (hx : sl F x = v) (h : bytesT cx s d = some e) (hv : strOf v = some l) : aop cx F S ⟨dst, .convert s d (.tmp x), ty, pos, af, gd⟩ = .val (.slice S.next 0 0 l.length l.length 1 none) ⟨S.h.set S.next (.row (byB l) 0 0 true e), S.next + 1⟩ := by
  unfold strOf at hv
  split at hv
  · cases hv
    unfold bytesT at h
    split at h
    · rename_i d1 e' h1 h2
      split at h
      · rename_i h3
        cases h
        unfold aop
        simp only [eval_tmp, hx, h1, h2, h3]
        have hm : mapL (fun n => AV.int .u8 (.ofNat n)) l = byB l := by
          unfold byB
          rw [mapL_eq]
          rfl
        rw [hm]
      · cases h
    · cases h
  · cases hv
@[simp] theorem bt9 : bytesT C0 9 38 = some 5 := by kernel_rfl
theorem sl_bytes {S : AS} (l : List Nat) : Sl ⟨S.h.set S.next (.row (byB l) 0 0 true 5), S.next + 1⟩ (.slice S.next 0 0 l.length l.length 1 none) 1 (byB l) := by
  refine ⟨by simp [isSl, capB], ?_, by simp [sLen, byB_len], by simp [bnd]⟩
  cases l with
  | nil => simp [rdS, byB]
  | cons x l =>
    simp [rdS, rd_at, get_set_same, rdO_row, byB]
    rw [List.take_of_length_le (by simp)]
structure AttsAt (S : AS) (u : AV) (l : List Att) : Prop where
  sl : Sl S u 5 (l.flatMap encA)
  le : l.length ≤ 2513169434843
theorem AttsAt.sub {S T : AS} {u : AV} {l : List Att} (h : AttsAt S u l) (hs : Sub S T) : AttsAt T u l := ⟨h.sl.toSub hs, h.le⟩
theorem okW_sl {S : AS} {v : AV} {sz : Nat} {cs : List AV} (h : Sl S v sz cs) : okW v = true := okW_of h.ok
def roomA (l : List Att) : Prop := l.length ≤ 8 ∧ ∀ a, a ∈ l → a.name.length ≤ 16 ∧ a.val.str.length ≤ 32
theorem AttsAt.keep {S T : AS} {w : Nat} {u : AV} {l : List Att} (h : AttsAt S u l) (hk : Keep (fun id => id = w) S T) (hw : bnd u ≠ w + 1) : AttsAt T u l :=
  ⟨h.sl.agree (fun id e => hk.h id (by have := h.sl.old; omega) (by omega)) hk.next, h.le⟩
end Go.Proofs.YtpgmahedcpepkaaGreatDoor.mod

namespace Go.Proofs.YtpgmahedcpepkaaGreatDoor.mod
open Go Go.Am
set_option linter.unusedVariables false
set_option linter.unusedSimpArgs false

noncomputable def nameC (n : Nat) : Bool := (decide ((n : Int) < 97) || decide (122 < (n : Int))) && (decide ((n : Int) < 48) || decide (57 < (n : Int))) && !decide ((n : Int) = 45) && !decide ((n : Int) = 46) && !decide ((n : Int) = 95)
theorem name240 {S : AS} (n : Nat) : CallW C0 297 [.int .u8 n] S fun r T => r = .bool (nameC n) ∧ Sub S T := by
  refine enterW (pu0 _) (pr0 _ rfl) fn240 rfl ok240 (by simp) fun F hn hs => ?_
  have s0 := hs 0
  clear hs
  simp only [List.getElem?_cons_zero, Option.getD_some] at s0
  unfold nameC
  by_cases a1 : (n : Int) < 97 <;> by_cases a2 : 122 < (n : Int) <;> by_cases a3 : (n : Int) < 48 <;> by_cases a4 : 57 < (n : Int) <;> by_cases a5 : (n : Int) = 45 <;> by_cases a6 : (n : Int) = 46 <;> by_cases a7 : (n : Int) = 95 <;>
    first | (exfalso; omega) | simp [s0, a1, a2, a3, a4, a5, a6, a7, Sub.refl]
theorem idx246 {S : AS} {u : AV} {l : List Nat} {f : FuncId} {caps : List AV} {P : Nat → Bool} (h : Sl S u 1 (byB l)) (hb : l.length ≤ 9223372036854775807) (hf : (f == 412) = false)
    (hc : ∀ T, Sub S T → ∀ x, x ∈ l → CallW C0 f (.int .u8 (x : Int) :: caps) T fun v T' => v = .bool (P x) ∧ Sub T T') :
    CallW C0 339 [u, .func (.func f) [] caps] S fun v T => v = .int .i64 (idxI P l) ∧ Sub S T := by
  refine enterW (pu0 _) (pr0 _ rfl) fn246 rfl ok246 (by simp) fun F hn hs => ?_
  have s0 := hs 0
  have s1 := hs 1
  clear hs
  simp only [List.getElem?_cons_zero, List.getElem?_cons_succ, Option.getD_some] at s0 s1
  have u1 := h.sl
  have u2 : sLen u = l.length := by rw [h.len1, byB_len]
  simp [s0, s1, u1, u2]
  refine loopP_of (idxH S u (.func (.func f) [] caps) l P) l.length (idxH_mk 0 (Sub.refl S) (by simp [s0]) (by simp [s1]) (by simp) (by simp) (Nat.zero_le _) rfl (by simp)) ?_
  rintro k F' S' hn' ⟨i, hsub, t0, t1, t7, t8, hi, hk, ha⟩
  clear hn' s0 s1 hn
  by_cases hi' : i < l.length
  · have hx : l[i]? = some l[i] := List.getElem?_eq_getElem hi'
    have hl := loadT_sl (cx := C0) (e := 5) (h.toSub hsub) (k := i) (x := .int .u8 (l[i] : Int)) (by unfold byB; rw [List.getElem?_map, hx]; rfl) ag5
    obtain ⟨v, T', ⟨rfl, hs⟩, e⟩ := (hc S' hsub l[i] (List.getElem_mem hi')).ex
    cases hp : P l[i] with
    | true => simp [t0, t1, t7, t8, u1, u2, hi', hl, e, hp, ex0 f hf, hsub.trans hs, idxI_at hx hp ha]
    | false =>
      simp [t0, t1, t7, t8, u1, u2, hi', hl, e, hp, ex0 f hf]
      exact ⟨l.length - (i + 1), by omega, idxH_mk (i + 1) (hsub.trans hs) (by simp [t0]) (by simp [t1]) (by simp [t7]) (by simp [wrap_succ (show i < 9223372036854775807 by omega)]) hi' rfl (take_step hx hp ha)⟩
  · have hall : ∀ x, x ∈ l → P x = false := fun x hx => ha x (by rw [List.take_of_length_le (by omega)]; exact hx)
    simp [t7, t8, hi', idxI_none hall, hsub]
theorem con241 {S : AS} {u : AV} {l : List Nat} {f : FuncId} {caps : List AV} {P : Nat → Bool} (h : Sl S u 1 (byB l)) (hb : l.length ≤ 9223372036854775807) (hf : (f == 412) = false)
    (hc : ∀ T, Sub S T → ∀ x, x ∈ l → CallW C0 f (.int .u8 (x : Int) :: caps) T fun v T' => v = .bool (P x) ∧ Sub T T') :
    CallW C0 298 [u, .func (.func f) [] caps] S fun v T => v = .bool (l.any P) ∧ Sub S T := by
  obtain ⟨v, T, ⟨rfl, hs⟩, e⟩ := (idx246 h hb hf hc).ex
  refine enterW (pu0 _) (pr0 _ rfl) fn241 rfl ok241 (by simp) fun F hn hs => ?_
  have s0 := hs 0
  have s1 := hs 1
  clear hs
  simp only [List.getElem?_cons_zero, List.getElem?_cons_succ, Option.getD_some] at s0 s1
  simp [s0, s1, e, ex0, hs, idxI_any]
noncomputable def nameB (s : List Nat) : Bool := !decide (s = []) && decide ((s.length : Int) ≤ 16) && !s.any nameC
theorem name232 {S : AS} (s : List Nat) : CallW C0 255 [.str s] S fun r T => r = .bool (nameB s) ∧ Sub S T := by
  have hs1 : Sub S ⟨S.h.set S.next (.row (byB s) 0 0 true 5), S.next + 1⟩ := sub1
  refine enterW (pu0 _) (pr0 _ rfl) fn232 rfl ok232 (by simp) fun F hn hs => ?_
  have s0 := hs 0
  clear hs
  simp only [List.getElem?_cons_zero, Option.getD_some] at s0
  unfold nameB
  by_cases h1 : s = []
  · subst h1
    simp [s0, eqS_eq, Sub.refl]
  by_cases h2 : (s.length : Int) ≤ 16
  · obtain ⟨r, T, ⟨rfl, hT⟩, e⟩ := (con241 (f := 297) (caps := []) (P := nameC) (sl_bytes (S := S) s) (by omega) rfl (fun T hT x hx => name240 x)).ex
    simp [s0, eqS_eq, h1, h2, e, ex0, hs1.trans hT, len_str un9]
  · simp [s0, eqS_eq, h1, h2, Sub.refl, len_str un9]
end Go.Proofs.YtpgmahedcpepkaaGreatDoor.mod

namespace Go.Proofs.YtpgmahedcpepkaaGreatDoor.mod
open Go Go.Am
set_option linter.unusedVariables false
set_option linter.unusedSimpArgs false

noncomputable instance : DecidableEq Val := fun _ _ => Classical.propDecidable _
theorem sameB_eq (a b : Val) : sameB a b = decide (a = b) := by
  obtain ⟨ak, an, ax, ab⟩ := a
  obtain ⟨bk, bn, bx, bb⟩ := b
  unfold sameB
  simp only [eqS_eq, Val.mk.injEq]
  by_cases h1 : ak = bk <;> by_cases h2 : an = bn <;> by_cases h3 : ax = bx <;> cases ab <;> cases bb <;> simp [h1, h2, h3]
theorem mayV_len {v : Val} (h : mayV v = true) : v.str.length ≤ 32 := by
  unfold mayV at h
  split at h
  · rw [sameB_eq, decide_eq_true_eq] at h
    rw [h]; simp
  · split at h
    · simp only [Bool.and_eq_true, decide_eq_true_eq] at h
      exact h.2
    · split at h
      · rw [sameB_eq, decide_eq_true_eq] at h
        rw [h]; simp
      · cases h
theorem nameB_len {s : List Nat} (h : nameB s = true) : s.length ≤ 16 := by
  unfold nameB at h
  simp only [Bool.and_eq_true, decide_eq_true_eq] at h
  omega
@[simp] theorem binS_geq {a b : List Nat} : binS .geq a b = some (.bool (!ltS a b)) := rfl
theorem nt225 : Tryz.f183.ntmps = 50 := by kernel_rfl
def okA (a : Att) : Prop := a.name.length ≤ 16 ∧ a.val.str.length ≤ 32
def mayH (S1 : AS) (b : Nat) (u : AV) (l : List Att) (k : Nat) (F' : Fr) (S' : AS) : Prop :=
  ∃ i : Nat, Sub S1 S' ∧ (∀ a, a ∈ l.take i → okA a) ∧ sl F' 1 = .ptr b 0 0 2 ∧ sl F' 6 = u ∧ sl F' 7 = .int .i64 l.length ∧ sl F' 8 = .int .i64 i ∧ i ≤ l.length ∧ k = l.length - i
theorem mayH_mk {S1 : AS} {b : Nat} {u : AV} {l : List Att} {k : Nat} {F' : Fr} {S' : AS} (i : Nat) (h1 : Sub S1 S') (h2 : ∀ a, a ∈ l.take i → okA a) (h3 : sl F' 1 = .ptr b 0 0 2) (h4 : sl F' 6 = u) (h5 : sl F' 7 = .int .i64 l.length) (h6 : sl F' 8 = .int .i64 i) (h7 : i ≤ l.length) (h8 : k = l.length - i) : mayH S1 b u l k F' S' :=
  ⟨i, h1, h2, h3, h4, h5, h6, h7, h8⟩
set_option maxRecDepth 20000 in
theorem evMay225 {S : AS} {key : List Nat} {u : AV} {l : List Att} (hu : AttsAt S u l) :
    CallW C0 183 [.agg [.str key, u]] S fun r T => ∃ b : Bool, r = .bool b ∧ Sub S T ∧ (b = true → key.length ≤ 16 ∧ roomA l) := by
  have hS1 : Sub S ⟨S.h.set S.next (.row [.str key, u] 0 0 false 33), S.next + 1⟩ := sub1
  have u1 := hu.sl.sl
  have u2 := hu.sl.len_flat encA_len (by omega)
  have uk := okW_sl hu.sl
  have hle := hu.le
  have hold := hu.sl.old
  refine enterW (pu0 _) (pr0 _ rfl) fn225 rfl ok225 (by simp) fun F hn hs' => ?_
  rw [nt225] at hn
  have s0 := hs' 0
  clear hs'
  simp only [List.getElem?_cons_zero, Option.getD_some] at s0
  simp [s0, u1, u2, uk, hu.sl.cells]
  refine loopP_of (mayH ⟨S.h.set S.next (.row [.str key, u] 0 0 false 33), S.next + 1⟩ S.next u l) l.length (mayH_mk 0 (Sub.refl _) (by simp) (by simp) (by simp) (by simp) (by simp) (Nat.zero_le _) rfl) ?_
  rintro k F' S' hn' ⟨i, q2, qa, t1, t6, t7, t8, hi, hk'⟩
  have hn2 : F'.n = 50 := by rw [hn']; simp [hn]
  clear hn' hn s0
  have hSn : S.next + 1 ≤ S'.next := q2.next
  have gb : S'.h.get S.next = some (.row [.str key, u] 0 0 false 33) := by rw [q2.h _ (Nat.lt_succ_self _)]; exact get_set_same _ _ _
  by_cases hi' : i < l.length
  · have hx : l[i]? = some l[i] := List.getElem?_eq_getElem hi'
    have huS := hu.sub (hS1.trans q2)
    have hlo := loadT_el (cx := C0) (e := 50) huS.sl encA_len (by omega) hx ag107 sz107
    have hZ : Sub S' ⟨(S'.h.set S'.next (.row [.str [], .int .i64 0, .int .i64 0, .str [], .bool false] 0 0 false 50)).set S'.next (.row (encA l[i]) 0 0 false 50), S'.next + 1⟩ := ⟨fun id hid => by
      show ((S'.h.set _ _).set _ _).get id = _
      rw [get_set_ne _ _ (by omega), get_set_ne _ _ (by omega)], Nat.le_succ _⟩
    obtain ⟨r, T1, ⟨rfl, hT1⟩, e1⟩ := (name232 (S := ⟨(S'.h.set S'.next (.row [.str [], .int .i64 0, .int .i64 0, .str [], .bool false] 0 0 false 50)).set S'.next (.row (encA l[i]) 0 0 false 50), S'.next + 1⟩) l[i].name).ex
    obtain ⟨r, T2, ⟨rfl, hT2⟩, e2⟩ := (mayIs l[i].val T1).ex
    have hT1n : S'.next + 1 ≤ T1.next := hT1.next
    have hT2n := hT2.next
    have c0 : (⟨(S'.h.set S'.next (.row [.str [], .int .i64 0, .int .i64 0, .str [], .bool false] 0 0 false 50)).set S'.next (.row (encA l[i]) 0 0 false 50), S'.next + 1⟩ : AS).h.get S'.next = some (.row (encA l[i]) 0 0 false 50) := get_set_same _ _ _
    have c1 : T1.h.get S'.next = some (.row (encA l[i]) 0 0 false 50) := by rw [hT1.h _ (Nat.lt_succ_self _)]; exact c0
    have c2 : T2.h.get S'.next = some (.row (encA l[i]) 0 0 false 50) := by rw [hT2.h _ (by omega)]; exact c1
    have hZ1 := hZ.trans hT1
    have hZ2 := hZ1.trans hT2
    have gb2 : T2.h.get S.next = some (.row [.str key, u] 0 0 false 33) := by rw [hZ2.h _ (by omega)]; exact gb
    have gb1 : T1.h.get S.next = some (.row [.str key, u] 0 0 false 33) := by rw [hZ1.h _ (by omega)]; exact gb
    have hS2 := (hS1.trans q2).trans hZ2
    have hS3 := (hS1.trans q2).trans hZ1
    have hwi := wrap_succ (i := i) (by omega)
    simp only [encA, encV] at hlo e1 e2 c0 c1 c2
    simp [t1, t6, t7, t8, u1, u2, hi', hlo, hn2]
    refine draws [.p, .r 0 0, .e [], .p, .p, .p, .r 0 0, .e [], .p, .p, .p, .p, .p, .p, .p, .r 0 0, .p, .p, .p, .p, .r 0 0, .p, .r 0 0, .p, .p, .p] (n := 50) (by kernel_rfl) (by simp [hn2]) ?_
    cases hb1 : nameB l[i].name with
    | false =>
      rw [hb1] at e1
      simp [t1, t6, t7, t8, e1, ex0, c1, gb1]
      exact hS3
    | true =>
      rw [hb1] at e1
      cases hb2 : mayV l[i].val with
      | false =>
        rw [hb2] at e2
        simp [t1, t6, t7, t8, e1, e2, ex0, c1, c2, gb1, gb2]
        exact hS2
      | true =>
        rw [hb2] at e2
        have hstep : ∀ a, a ∈ l.take (i + 1) → okA a := by
          intro a ha
          rw [List.take_succ_eq_append_getElem hi'] at ha
          rcases List.mem_append.1 ha with ha | ha
          · exact qa a ha
          · simp at ha; subst ha; exact ⟨nameB_len hb1, mayV_len hb2⟩
        by_cases h0 : (i : Int) = 0
        · simp [t1, t6, t7, t8, e1, e2, ex0, c1, c2, gb1, gb2, h0]
          exact ⟨l.length - (i + 1), by omega, mayH_mk (i + 1) (q2.trans hZ2) hstep (by simp [t1]) (by simp [t6]) (by simp [t7]) (by simp [h0]; exact IntWalk.i64_in _ (by omega)) hi' rfl⟩
        · obtain ⟨j, rfl⟩ : ∃ j, i = j + 1 := ⟨i - 1, by omega⟩
          have hj : j < l.length := by omega
          have hu2 := hu.sub hS2
          have hpp := isP_pAt (k := j) u1 (by rw [u2]; exact hj)
          have hlp := loadT_elf (cx := C0) (e := 9) (o := 0) (y := .str l[j].name) hu2.sl encA_len (by omega) (List.getElem?_eq_getElem hj) rfl ag9
          have hwj : IntKind.i64.wrap ((j : Int) + 1 - 1) = (j : Int) := by
            rw [show ((j : Int) + 1 - 1) = (j : Int) by omega]; exact wrap_nat (by omega)
          have hwj' : IntKind.i64.wrap (j : Int) = (j : Int) := wrap_nat (by omega)
          have hgt : (0 : Int) < (j : Int) + 1 := by omega
          simp at hwi
          cases hlt : ltS l[j].name l[j + 1].name with
          | true =>
            simp [t1, t6, t7, t8, e1, e2, ex0, c1, c2, gb1, gb2, h0, hgt, hwj, hwj', u1, u2, uk, hj, fieldP_add hpp, hlp, hlt, hwi]
            exact ⟨l.length - (j + 1 + 1), by omega, mayH_mk (j + 1 + 1) (q2.trans hZ2) hstep (by simp [t1]) (by simp [t6]) (by simp [t7]) (by simp) hi' rfl⟩
          | false =>
            simp [t1, t6, t7, t8, e1, e2, ex0, c1, c2, gb1, gb2, h0, hgt, hwj, hwj', u1, u2, uk, hj, fieldP_add hpp, hlp, hlt, hwi]
            exact hS2
  · have hie : i = l.length := by omega
    subst hie
    rw [List.take_length] at qa
    have hsub := hS1.trans q2
    by_cases k1 : (key.length : Int) ≤ 16
    · by_cases k2 : (l.length : Int) ≤ 8
      · simp [t1, t6, t7, t8, gb, k1, k2, u1, u2, uk, len_str un9]
        exact ⟨hsub, by omega, ⟨by omega, fun a ha => qa a ha⟩⟩
      · simp [t1, t6, t7, t8, gb, k1, k2, u1, u2, uk, len_str un9]
        exact hsub
    · simp [t1, t6, t7, t8, gb, k1, u1, u2, uk, len_str un9]
      exact hsub
end Go.Proofs.YtpgmahedcpepkaaGreatDoor.mod
