/-
  What the document's answer says of values, names, events: as the code does.
-/
import Derived.Test.YtfempihpphbgmaaGreatPartC
import Derived.Test.YtfempihpphbgmaaGreatPartE
namespace Go.Proofs.YtfempihpphbgmaaGreat.idx
open Go Go.Am Go.Proofs.YtfempihpphbgmaaGreat.mod
set_option linter.unusedVariables false
set_option linter.unusedSimpArgs false
theorem p_fn81 : C0.fns.get 81 = some Tryz.f81 := by kernel_rfl
theorem p_ok81 : codeOk C0 Tryz.f81.ntmps (Tryz.f81.body.getD .skip) = true := by kernel_rfl
@[simp] theorem p_fa50_3 : fieldAt C0 50 3 = some 3 := by kernel_rfl
@[simp] theorem p_ag4 : aE C0 4 = some false := by kernel_rfl
@[simp] theorem p_sz4 : aw C0 4 = some 1 := by kernel_rfl
@[simp] theorem p_fa50_1 : fieldAt C0 50 1 = some 1 := by kernel_rfl
@[simp] theorem p_ag2 : aE C0 2 = some false := by kernel_rfl
@[simp] theorem p_sz2 : aw C0 2 = some 1 := by kernel_rfl
theorem p_fn80 : C0.fns.get 80 = some Tryz.f80 := by kernel_rfl
theorem p_ok80 : codeOk C0 Tryz.f80.ntmps (Tryz.f80.body.getD .skip) = true := by kernel_rfl
theorem p_fn48 : C0.fns.get 48 = some Tryz.f48 := by kernel_rfl
theorem p_ok48 : codeOk C0 Tryz.f48.ntmps (Tryz.f48.body.getD .skip) = true := by kernel_rfl
theorem p_fn54 : C0.fns.get 54 = some Tryz.f54 := by kernel_rfl
theorem p_ok54 : codeOk C0 Tryz.f54.ntmps (Tryz.f54.body.getD .skip) = true := by kernel_rfl
@[simp] theorem p_ze50 : zeroOf C0 50 = some (.agg [.int .i64 0, .int .i64 0, .str [], .bool false]) := by kernel_rfl
theorem p_fn122 : C0.fns.get 122 = some Tryz.f122 := by kernel_rfl
theorem p_ok122 : codeOk C0 Tryz.f122.ntmps (Tryz.f122.body.getD .skip) = true := by kernel_rfl
theorem p_nt81 : Tryz.f81.ntmps = 44 := by kernel_rfl
theorem mayV_eq (v : gN) : gP v = if v.kind = 1 then (fX v.str [] && !v.bool) else if v.kind = 2 then (decide (v.str.length ≤ 32) && (decide (v.num = 0) && !v.bool)) else (decide (v.kind = 3) && (decide (v.num = 0) && fX v.str [])) := by
 obtain ⟨k, n, s, b⟩ := v;unfold gP gJ
 by_cases h1 : k = 1
 ·subst h1
  cases b <;> cases fX s [] <;> simp
 ·by_cases h2 : k = 2
  ·subst h2
   have : fX s s = true := by rw [fy]; simp
   by_cases hn : n = 0 <;> by_cases hl : s.length ≤ 32 <;> cases b <;> simp [this, hn, hl]
  ·by_cases h3 : k = 3
   ·subst h3
    by_cases hn : n = 0 <;> cases fX s [] <;> cases b <;> simp [hn]
   ·simp [h1, h2, h3]
theorem ref81 (v : gN) (S : AS) : ai C0 81 [.agg (aS v)] S fun r T => r = .bool (gP v) ∧ Sub S T := by
 rw [mayV_eq];refine br (dm _) (dn _ rfl) p_fn81 rfl p_ok81 (by simp) fun F hn hs => ?_
 rw [p_nt81] at hn;have s0 := hs 0;clear hs;obtain ⟨k, n, s, b⟩ := v;simp only [List.getElem?_cons_zero, List.getElem?_cons_succ, Option.getD_some, aS] at s0 ⊢;have q32 : ((s.length : Int) ≤ 32) = (s.length ≤ 32) := by simp; omega
 by_cases DU : k = 1
 ·subst DU
  cases hs : fX s [] <;> cases b <;> simp [s0, hs, cS]
 ·by_cases h2 : k = 2
  ·subst h2
   by_cases hl : s.length ≤ 32 <;> by_cases hz : n = 0 <;> cases b <;> simp [s0, aD iE, q32, hl, hz, cS]
  ·by_cases h3 : k = 3
   ·subst h3
    by_cases hz : n = 0 <;> cases hs : fX s [] <;> simp [s0, hz, hs, cS]
   ·simp [s0, DU, h2, h3, cS]
theorem ref122 (a b : gN) (S : AS) : ai C0 122 [.agg (aS a), .agg (aS b)] S fun r T => r = .int .i64 (cM a b) ∧ Sub S T := by
 refine br (dm _) (dn _ rfl) p_fn122 rfl p_ok122 (by simp) fun F hn hs => ?_
 have s0 := hs 0;have s1 := hs 1;clear hs;obtain ⟨k, n, s, c⟩ := a;obtain ⟨k', n', s', c'⟩ := b;simp only [List.getElem?_cons_zero, List.getElem?_cons_succ, Option.getD_some, aS] at s0 s1 ⊢;unfold cM
 by_cases hk : k = k'
 ·subst hk
  by_cases h1 : k = 1
  ·subst h1
   rcases Int.lt_trichotomy n n' with h | h | h
   ·have h2 : ¬ n' < n := by omega
    simp [s0, s1, iD, h, h2, kD]
   ·subst h
    simp [s0, s1, iD, kD]
   ·have h2 : ¬ n < n' := by omega
    have h3 : ¬ n = n' := by omega
    simp [s0, s1, iD, h, h2, h3, kD]
  ·by_cases h2 : k = 2
   ·subst h2
    unfold kf
    cases ha : gq s s' <;> cases hb : gq s' s <;> cases hc : fX s s' <;> simp [s0, s1, ha, hb, hc, kD]
    ·have h1 : kf s s' = 1 := by unfold kf; rw [ha, hc]; rfl
     have h2 : kf s' s ≠ -1 := fun h => by rw [ke, hb] at h; cases h
     have h4 := ru.xY s s';omega
    ·rw [fy, decide_eq_true_eq] at hc
     rw [hc, oE] at hb
     cases hb
   ·by_cases h3 : k = 3
    ·subst h3
     cases c <;> cases c' <;> simp [s0, s1, iD, pz, kD]
    ·simp [s0, s1, h1, h2, h3, kD]
 ·by_cases aL : k < k'
  ·simp [s0, s1, hk, aL, iD, kD]
  ·have h2 : k' < k := by omega
   simp [s0, s1, hk, aL, h2, iD, kD]
theorem p_nt80 : Tryz.f80.ntmps = 49 := by kernel_rfl
def nmH (S : AS) (s : List Nat) (k : Nat) (F' : Fr) (S' : AS) : Prop :=
 S' = S ∧ ∃ i : Nat, sl F' 0 = .str s ∧ sl F' 3 = .int .i64 (i : Int) ∧ i ≤ s.length ∧ (s.take i).any lQ = false ∧ k = s.length - i ∧ F'.n = 49
theorem xX {s : List Nat} {i x : Nat} {P : Nat → Bool} (h : s[i]? = some x) : (s.take (i + 1)).any P = ((s.take i).any P || P x) := by
 obtain ⟨hi, e⟩ := List.getElem?_eq_some_iff.1 h;rw [List.take_succ_eq_append_getElem hi, List.any_append, e];simp
theorem ref80 (s : List Nat) (hl : s.length ≤ 9223372036854775806) (S : AS) : ai C0 80 [.str s] S fun r T => r = .bool (lz s) ∧ T = S := by
 refine cv (dm _) (dn _ rfl) p_fn80 rfl p_ok80 (by simp) fun F hn s0 => ?_
 rw [p_nt80] at hn;simp [s0];refine aB (nmH S s) s.length ⟨rfl, 0, by simp [s0], by simp, Nat.zero_le _, rfl, rfl, by simp [hn]⟩ ?_
 clear s0 hn
 rintro k F' S' df ⟨rfl, i, t0, t3, hi, ha, hk, hn⟩
 clear df
 by_cases b9 : i < s.length
 ·obtain ⟨x, hx⟩ : ∃ x, s[i]? = some x := ⟨_, List.getElem?_eq_getElem b9⟩
  have w3 := aN (show i < 9223372036854775807 by omega)
  have hix : (i : Int) < (s.length : Int) := by omega
  have fQ := xX (P := lQ) hx;rw [ha, Bool.false_or] at fQ;have nN : lQ x = Cn x := (yL x).symm;have pW : lQ x = true → lz s = false := fun hb => by
   unfold lz;have : s.any lQ = true := List.any_eq_true.2 ⟨x, List.mem_of_getElem? hx, hb⟩;simp [this]
  unfold Cn at nN;have qY : lQ x = false → ∀ F2 : Fr, sl F2 0 = .str s → sl F2 3 = .int .i64 ((i + 1 : Nat) : Int) → F2.n = 49 → ∃ j, j < k ∧ nmH S' s j F2 S' := fun hb F2 p0 p3 pn =>
   ⟨s.length - (i + 1), by omega, rfl, i + 1, p0, p3, b9, by rw [fQ]; exact hb, rfl, pn⟩
  have tb := fun (F : Fr) (dst : Option Tmp) (ty : TypeId) (pos : String) (af : Array Edge) (gd : Option (Nat × Bool)) (p q : Tmp) (a : sl F p = .str s) (b : sl F q = .int .i64 (i : Int)) => xS (cx := C0) (F := F) (S := S') (dst := dst) (ty := ty) (pos := pos) (af := af) (g := gd) (t := 9) ((ay F p).trans a) iE ((ay F q).trans b) rfl hx
  simp [t0, t3, aD iE, hix, tb]
  by_cases a1 : (97 : Int) ≤ x
  ·by_cases a2 : (x : Int) ≤ 122
   ·have hb : lQ x = false := by rw [nN]; simp; omega
    simp [t0, t3, a1, a2];exact qY hb _ (by simp [t0]) (by simp [w3, -Int.natCast_add]) (by simp [hn])
   ·have hb : lQ x = true := by rw [nN]; simp; omega
    have c3 : (48 : Int) ≤ x := by omega
    have c4 : ¬ (x : Int) ≤ 57 := by omega
    have c5 : ¬ (x : Int) = 45 := by omega
    have c6 : ¬ (x : Int) = 46 := by omega
    have c7 : ¬ (x : Int) = 95 := by omega
    simp [t0, t3, a1, a2, c3, c4, c5, c6, c7, pW hb]
  ·by_cases a3 : (48 : Int) ≤ x
   ·by_cases a4 : (x : Int) ≤ 57
    ·have hb : lQ x = false := by rw [nN]; simp; omega
     simp [t0, t3, a1, a3, a4];exact qY hb _ (by simp [t0]) (by simp [w3, -Int.natCast_add]) (by simp [hn])
    ·have c5 : ¬ (x : Int) = 45 := by omega
     have c6 : ¬ (x : Int) = 46 := by omega
     by_cases c7 : (x : Int) = 95
     ·have hb : lQ x = false := by rw [nN]; simp; omega
      simp [t0, t3, a1, a3, a4, c7];exact qY hb _ (by simp [t0]) (by simp [w3, -Int.natCast_add]) (by simp [hn])
     ·have hb : lQ x = true := by rw [nN]; simp; omega
      simp [t0, t3, a1, a3, a4, c5, c6, c7, pW hb]
   ·have c7 : ¬ (x : Int) = 95 := by omega
    by_cases c5 : (x : Int) = 45
    ·have hb : lQ x = false := by rw [nN]; simp; omega
     simp [t0, t3, a1, a3, c5];exact qY hb _ (by simp [t0]) (by simp [w3, -Int.natCast_add]) (by simp [hn])
    ·by_cases c6 : (x : Int) = 46
     ·have hb : lQ x = false := by rw [nN]; simp; omega
      simp [t0, t3, a1, a3, c6];exact qY hb _ (by simp [t0]) (by simp [w3, -Int.natCast_add]) (by simp [hn])
     ·have hb : lQ x = true := by rw [nN]; simp; omega
      simp [t0, t3, a1, a3, c5, c6, c7, pW hb]
 ·obtain rfl : i = s.length := by omega
  rw [List.take_length] at ha;have q1 : ((1 : Int) ≤ s.length) = (s ≠ []) := by
   cases s with
   | nil => simp
   | cons a s => simp; omega
  have wV : ((s.length : Int) ≤ 16) = (s.length ≤ 16) := by simp; omega
  unfold lz
  by_cases h1 : s = []
  ·subst h1
   simp [t0, t3, aD iE]
  ·by_cases h2 : s.length ≤ 16
   ·simp [t0, t3, aD iE, q1, wV, h1, h2, ha]
   ·simp [t0, t3, aD iE, q1, wV, h1, h2, ha]
def Names (l : List dD) : Prop := ∀ a, a ∈ l → a.name.length ≤ 9223372036854775806
theorem p_nt48 : Tryz.f48.ntmps = 58 := by kernel_rfl
def rmH (S1 : AS) (b : Nat) (l : List dD) (k : Nat) (F' : Fr) (S' : AS) : Prop :=
 ∃ i : Nat, Sub S1 S' ∧ (∀ j, j < i → kl l j = true) ∧ sl F' 1 = .ptr b 0 0 2 ∧ sl F' 3 = .int .i64 (i : Int) ∧ i ≤ l.length ∧ k = l.length - i ∧ F'.n = 58
theorem Ez {S1 : AS} {b : Nat} {l : List dD} {k : Nat} {F' : Fr} {S' : AS} (i : Nat) (h1 : Sub S1 S') (h2 : ∀ j, j < i → kl l j = true) (h3 : sl F' 1 = .ptr b 0 0 2) (h6 : sl F' 3 = .int .i64 (i : Int)) (h7 : i ≤ l.length) (h8 : k = l.length - i) (h9 : F'.n = 58) : rmH S1 b l k F' S' :=
 ⟨i, h1, h2, h3, h6, h7, h8, h9⟩
theorem lu {p : AV} (h : isP p = true) (k : Nat) : oW (x5 p k) = true := by
 cases p <;> first | rfl | cases h
section
variable {S : AS}
set_option maxRecDepth 20000 in
set_option maxHeartbeats 1000000 in
theorem ref48 {key : List Nat} {u : AV} {l : List dD} (hu : eF S u l) (hnm : Names l) : ai C0 48 [.agg [.str key, u]] S fun r T => r = .bool (ec key l) ∧ Sub S T := by
 obtain ⟨S1, hS⟩ : ∃ S1 : AS, S1 = ⟨S.h.set S.next (.row [.str key, u] 0 0 false 33), S.next + 1⟩ := ⟨_, rfl⟩;have fp : Sub S S1 := by rw [hS]; exact cS
 have hSn : S1.next = S.next + 1 := by rw [hS]
 have g1 : S1.h.get S.next = some (.row [.str key, u] 0 0 false 33) := by rw [hS]; exact aa _ _ _
 have u1 := hu.sl.sl;have u2 := hu.sl.aO bG (by omega)
 have uk := aW hu.sl;have uo := hu.sl.ok;have hle := hu.le;have cD : S.next < S1.next := by omega
 have wV : ((16 : Int) < key.length) = (16 < key.length) := by simp; omega
 have q8 : ((8 : Int) < l.length) = (8 < l.length) := by simp; omega
 refine br (dm _) (dn _ rfl) p_fn48 rfl p_ok48 (by simp) fun F hn ue => ?_
 rw [p_nt48] at hn;have s0 := ue 0;clear ue;simp only [List.getElem?_cons_zero, Option.getD_some] at s0
 by_cases k16 : 16 < key.length
 ·have : ec key l = false := by unfold ec; simp; omega
  simp [s0, u1, u2, uk, hu.sl.cells, ← hS, g1, aj cD, aD iE, wV, k16, this, fp]
 by_cases k8 : 8 < l.length
 ·have : ec key l = false := by unfold ec; simp; omega
  simp [s0, u1, u2, uk, hu.sl.cells, ← hS, g1, aj cD, aD iE, wV, k16, q8, k8, this, fp]
 simp [s0, u1, u2, uk, hu.sl.cells, ← hS, g1, aj cD, aD iE, wV, k16, q8, k8];refine aB (rmH S1 S.next l) l.length (Ez 0 (Sub.refl _) (fun j hj => by omega) (by simp) (by simp) (Nat.zero_le _) rfl (by simp [hn])) ?_
 clear s0 hn
 rintro k F' S' df ⟨i, q2, qa, t1, t3, hi, uE, hn⟩
 clear df;have gb : S'.h.get S.next = some (.row [.str key, u] 0 0 false 33) := (q2.h _ cD).trans g1;have gu : S.next < S'.next := Nat.lt_of_lt_of_le cD q2.next
 by_cases b9 : i < l.length
 ·obtain ⟨a, hx⟩ : ∃ a, l[i]? = some a := ⟨_, List.getElem?_eq_getElem b9⟩
  have hpp := ik (k := i) u1 (by rw [u2]; exact b9)
  have nN : kl l i = false → ec key l = false := fun h => by unfold ec; rw [Co b9 h]; rfl
  obtain ⟨r, T1, ⟨rfl, rfl⟩, e1⟩ := (ref80 a.name (hnm a (List.mem_of_getElem? hx)) S').ex;obtain ⟨r, T2, ⟨rfl, iH⟩, e2⟩ := (ref81 a.val T1).ex;have lG := hu.sub (fp.trans q2);have mP := lG.sub iH;have ln := gL (cx := C0) (e := 9) (o := 0) (y := .str a.name) lG.sl bG (by omega) hx rfl ag9
  have lv := oF (cx := C0) (e := 50) (o := 1) (n' := 4) lG.sl bG (by omega) hx (by omega) wP uW
  have ln2 := gL (cx := C0) (e := 9) (o := 0) (y := .str a.name) mP.sl bG (by omega) hx rfl ag9
  have gb2 : T2.h.get S.next = some (.row [.str key, u] 0 0 false 33) := (iH.h _ gu).trans gb;have hlt3 : S.next < T2.next := Nat.lt_of_lt_of_le gu iH.next;have iY := aN (i := i) (by omega)
  simp [eQ] at lv;simp only [aS] at e2 lv;have lU := (fp.trans q2).trans iH
  cases lJ : lz a.name with
  | false =>
   rw [lJ] at e1;rw [nN (okAt_n hx lJ)];simp [t1, t3, gb, aj gu, u1, u2, uk, b9, hn, bl hpp, ln, aR, e1, fp.trans q2]
  | true =>
  rw [lJ] at e1
  cases pe : gP a.val with
  | false =>
   rw [pe] at e2;rw [nN (okAt_v hx pe)];simp [t1, t3, gb, aj gu, u1, u2, uk, b9, hn, bl hpp, ln, lv, aR, e1, e2, lU]
  | true =>
  rw [pe] at e2;simp [t1, t3, gb, aj gu, u1, u2, uk, b9, hn, bl hpp, ln, lv, aR, e1, e2];refine jQ (n := 58) (by kernel_rfl) (by simp [hn]) ?_
  by_cases h0 : i = 0
  ·subst h0
   have fQ := uy qa (by rw [okAt_0 hx, lJ, pe]; rfl)
   simp at t3 iY;simp [t1, t3];exact ⟨l.length - (0 + 1), by omega, Ez (0 + 1) (q2.trans iH) fQ (by simp [t1]) (by simp; decide) b9 rfl (by simp [hn])⟩
  ·obtain ⟨j, fW⟩ : ∃ j, i = j + 1 := ⟨i - 1, by omega⟩
   have hj : j < l.length := by omega
   obtain ⟨b, hxj⟩ : ∃ b, l[j]? = some b := ⟨_, List.getElem?_eq_getElem hj⟩;have nd := ik (k := j) u1 (by rw [u2]; exact hj)
   have lj := gL (cx := C0) (e := 9) (o := 0) (y := .str b.name) mP.sl bG (by omega) hxj rfl ag9
   have nc : IntKind.i64.wrap ((i : Int) - 1) = (j : Int) := by
    rw [show ((i : Int) - 1) = (j : Int) by omega]; exact ja (by omega)
   have hgt : 0 < i := by omega
   have ug : kl l i = (lz a.name && gP a.val && gq b.name a.name) := by
    rw [fW]; exact ET (by rw [← fW]; exact hx) hxj
   rw [lJ, pe] at ug;have o1 := lu hpp 0;have o2 := lu nd 0
   cases aL : gq b.name a.name with
   | true =>
    rw [aL] at ug;simp [t1, t3, gb2, aj hlt3, u1, u2, uk, uo, hgt, nc, hj, b9, bl hpp, bl nd, ln2, lj, aL, o1, o2];exact ⟨l.length - (i + 1), by omega, Ez (i + 1) (q2.trans iH) (uy qa ug) (by simp [t1]) (by simp [iY, -Int.natCast_add]) b9 rfl (by simp [hn])⟩
   | false =>
    rw [aL] at ug;rw [nN ug];simp [t1, t3, gb2, aj hlt3, u1, u2, uk, uo, hgt, nc, hj, b9, bl hpp, bl nd, ln2, lj, aL, o1, o2];exact lU
 ·obtain rfl : i = l.length := by omega
  have qW := yO qa;have : ec key l = true := by unfold ec; rw [qW]; simp; omega
  rw [this];simp [t1, t3, gb, aj gu, u1, u2, uk, fp.trans q2]
end
theorem getA_at {l : List dD} {n : List Nat} {i : Nat} {a : dD} (hx : l[i]? = some a) (he : fX a.name n = true) (hb : ∀ j b, j < i → l[j]? = some b → fX b.name n = false) : fl l n = some a.val := by
 obtain ⟨hi, e⟩ := List.getElem?_eq_some_iff.1 hx;have hf : l.find? (fun a : dD => fX a.name n) = some a := List.find?_eq_some_iff_getElem.2 ⟨he, i, hi, e, fun j hj => by
  have := hb j l[j] hj (List.getElem?_eq_getElem (by omega))
  simp [this]⟩
 unfold fl;rw [hf]; rfl
theorem CO {l : List dD} {n : List Nat} (hb : ∀ j b, j < l.length → l[j]? = some b → fX b.name n = false) : fl l n = none := by
 unfold fl;rw [List.find?_eq_none.2 fun x hx => by
  obtain ⟨j, hj, e⟩ := List.mem_iff_getElem.1 hx;have := hb j x hj (by rw [List.getElem?_eq_getElem hj, e])
  simp [this]]
 rfl
theorem p_nt54 : Tryz.f54.ntmps = 29 := by kernel_rfl
def gtH (S1 : AS) (b : Nat) (l : List dD) (n : List Nat) (k : Nat) (F' : Fr) (S' : AS) : Prop :=
 S' = S1 ∧ ∃ i : Nat, (∀ j b, j < i → l[j]? = some b → fX b.name n = false) ∧ sl F' 1 = .str n ∧ sl F' 2 = .ptr b 0 0 2 ∧ sl F' 4 = .ptr (b + 1) 0 0 4 ∧ sl F' 6 = .int .i64 (i : Int) ∧ i ≤ l.length ∧ k = l.length - i ∧ F'.n = 29
set_option maxHeartbeats 1000000 in
theorem ref54 {S : AS} {key n : List Nat} {u : AV} {l : List dD} (hu : eF S u l) :
  ai C0 54 [.agg [.str key, u], .str n] S fun r T => r = .tuple [.agg (aS ((fl l n).getD zeroV)), .bool (fl l n).isSome] ∧ Sub S T := by
 obtain ⟨S1, hS⟩ : ∃ S1 : AS, S1 = ⟨(S.h.set S.next (.row [.str key, u] 0 0 false 33)).set (S.next + 1) (.row (aS zeroV) 0 0 false 50), S.next + 2⟩ := ⟨_, rfl⟩;have fp : Sub S S1 := by rw [hS]; exact kD
 have hSn : S1.next = S.next + 2 := by rw [hS]
 have g1 : S1.h.get S.next = some (.row [.str key, u] 0 0 false 33) := by
  rw [hS];show ((S.h.set _ _).set _ _).get _ = _;rw [ae _ _ (by omega)]; exact aa _ _ _
 have g2 : S1.h.get (S.next + 1) = some (.row (aS zeroV) 0 0 false 50) := by rw [hS]; exact aa _ _ _
 have u1 := hu.sl.sl;have u2 := hu.sl.aO bG (by omega)
 have uk := aW hu.sl;have hle := hu.le;have cD : S.next < S1.next := by omega
 refine br (dm _) (dn _ rfl) p_fn54 rfl p_ok54 (by simp) fun F hn ue => ?_
 rw [p_nt54] at hn;have s0 := ue 0;have s1 := ue 1;clear ue;simp only [List.getElem?_cons_zero, List.getElem?_cons_succ, Option.getD_some, aS, zeroV] at s0 s1 hS g2;simp [s0, s1, u1, u2, uk, hu.sl.cells, ← hS];refine aB (gtH S1 S.next l n) l.length ⟨rfl, 0, fun j b hj => by omega, by simp [s1], by simp, by simp, by simp, Nat.zero_le _, rfl, by simp [hn]⟩ ?_
 clear s0 s1 hn
 rintro k F' S' df ⟨rfl, i, qa, t1, t2, t4, t6, hi, uE, hn⟩
 clear df;have lG := hu.sub fp
 by_cases b9 : i < l.length
 ·obtain ⟨a, hx⟩ : ∃ a, l[i]? = some a := ⟨_, List.getElem?_eq_getElem b9⟩
  have hpp := ik (k := i) u1 (by rw [u2]; exact b9)
  have ln := gL (cx := C0) (e := 9) (o := 0) (y := .str a.name) lG.sl bG (by omega) hx rfl ag9
  have lv := oF (cx := C0) (e := 50) (o := 1) (n' := 4) lG.sl bG (by omega) hx (by omega) wP uW
  simp [eQ] at lv;simp only [aS] at lv;have iY := aN (i := i) (by omega)
  cases he : fX a.name n with
  | true =>
   have hg := getA_at hx he qa;simp [t1, t2, t4, t6, g1, g2, aj cD, u1, u2, uk, b9, hn, bl hpp, ln, lv, he];rw [hg];exact ⟨⟨rfl, rfl⟩, fp.set _ _ (Nat.le_add_right _ _) _ (Nat.le_refl _)⟩
  | false =>
   simp [t1, t2, t4, t6, g1, g2, aj cD, u1, u2, uk, b9, hn, bl hpp, ln, lv, he];exact ⟨l.length - (i + 1), by omega, rfl, i + 1, fun j b hj hb => by
    by_cases e : j = i
    ·subst e
     rw [hx] at hb; cases hb; exact he
    ·exact qa j b (by omega) hb, by simp [t1], by simp [t2], by simp [t4], by simp [iY, -Int.natCast_add], b9, rfl, by simp [hn]⟩
 ·obtain rfl : i = l.length := by omega
  have hg := CO qa;simp [t1, t2, t4, t6, g1, g2, aj cD, u1, u2, uk, hg];exact ⟨rfl, fp.set _ _ (Nat.le_add_right _ _) _ (Nat.le_refl _)⟩
theorem p_fn121 : C0.fns.get 121 = some Tryz.f121 := by kernel_rfl
theorem p_ok121 : codeOk C0 Tryz.f121.ntmps (Tryz.f121.body.getD .skip) = true := by kernel_rfl
theorem p_fn82 : C0.fns.get 82 = some Tryz.f82 := by kernel_rfl
theorem p_ok82 : codeOk C0 Tryz.f82.ntmps (Tryz.f82.body.getD .skip) = true := by kernel_rfl
@[simp] theorem p_fa54_0 : fieldAt C0 54 0 = some 0 := by kernel_rfl
@[simp] theorem p_fa54_3 : fieldAt C0 54 3 = some 6 := by kernel_rfl
@[simp] theorem p_ag51 : aE C0 51 = some false := by kernel_rfl
@[simp] theorem p_sz51 : aw C0 51 = some 1 := by kernel_rfl
@[simp] theorem p_st51 : kP C0 51 = some (50, 4, 40) := by kernel_rfl
theorem p_fn50 : C0.fns.get 50 = some Tryz.f50 := by kernel_rfl
theorem p_ok50 : codeOk C0 Tryz.f50.ntmps (Tryz.f50.body.getD .skip) = true := by kernel_rfl
@[simp] theorem p_st25 : kP C0 25 = some (54, 7, 88) := by kernel_rfl
@[simp] theorem p_ag54 : aE C0 54 = some true := by kernel_rfl
@[simp] theorem p_sz54 : aw C0 54 = some 7 := by kernel_rfl
theorem p_fn83 : C0.fns.get 83 = some Tryz.f83 := by kernel_rfl
theorem p_ok83 : codeOk C0 Tryz.f83.ntmps (Tryz.f83.body.getD .skip) = true := by kernel_rfl
theorem p_fn51 : C0.fns.get 51 = some Tryz.f51 := by kernel_rfl
theorem p_ok51 : codeOk C0 Tryz.f51.ntmps (Tryz.f51.body.getD .skip) = true := by kernel_rfl
theorem ref121 (v : gN) (S : AS) : ai C0 121 [.agg (aS v)] S fun r T => r = .bool (gJ v zeroV) ∧ Sub S T := by
 refine br (dm _) (dn _ rfl) p_fn121 rfl p_ok121 (by simp) fun F hn hs => ?_
 have s0 := hs 0;clear hs;obtain ⟨k, n, s, b⟩ := v;simp only [List.getElem?_cons_zero, List.getElem?_cons_succ, Option.getD_some, aS] at s0 ⊢;unfold gJ zeroV
 by_cases h1 : k = 0
 ·subst h1
  by_cases h2 : n = 0
  ·subst h2
   cases h3 : fX s [] <;> cases b <;> simp [s0, h3, cS]
  ·simp [s0, h2, cS]
 ·simp [s0, h1, cS]
theorem p_nt82 : Tryz.f82.ntmps = 88 := by kernel_rfl
def mcH (S1 : AS) (b : Nat) (c : de) (k : Nat) (F' : Fr) (S' : AS) : Prop :=
 ∃ i : Nat, Sub S1 S' ∧ (∀ j v, j < i → c.bK[j]? = some v → gP v = true) ∧ sl F' 1 = .ptr b 0 0 7 ∧ sl F' 3 = .int .i64 (i : Int) ∧ i ≤ c.bK.length ∧ k = c.bK.length - i ∧ F'.n = 88
theorem setB_good {c : de} (h : ∀ j v, j < c.bK.length → c.bK[j]? = some v → gP v = true) : zP c = true := by
 unfold zP;have : (c.bK.any fun v => !gP v) = false := by
  rw [List.any_eq_false];intro v hv;obtain ⟨j, hj, e⟩ := List.mem_iff_getElem.1 hv;have := h j v hj (by rw [List.getElem?_eq_getElem hj, e])
  simp [this]
 rw [this]; rfl
theorem setB_bad {c : de} {v : gN} (h : v ∈ c.bK) (hv : gP v = false) : zP c = false := by
 unfold zP;have : (c.bK.any fun v => !gP v) = true := List.any_eq_true.2 ⟨v, h, by rw [hv]; rfl⟩
 rw [this]; rfl
set_option maxHeartbeats 4000000 in
theorem ref82 (c : de) {S : AS} (hc : kC S c) : ai C0 82 [.agg (bo c)] S fun r T => r = .bool (m6 c) ∧ Sub S T := by
 obtain ⟨S1, hS⟩ : ∃ S1 : AS, S1 = ⟨S.h.set S.next (.row (bo c) 0 0 false 54), S.next + 1⟩ := ⟨_, rfl⟩;have fp : Sub S S1 := by rw [hS]; exact cS
 have hSn : S1.next = S.next + 1 := by rw [hS]
 have g1 : S1.h.get S.next = some (.row (bo c) 0 0 false 54) := by rw [hS]; exact aa _ _ _
 have cD : S.next < S1.next := by omega
 obtain ⟨r, T, ⟨rfl, hT⟩, e1⟩ := (ref121 c.val S1).ex;obtain ⟨r, U, ⟨rfl, hU⟩, e2⟩ := (ref81 c.val S1).ex;have gT : T.h.get S.next = some (.row (bo c) 0 0 false 54) := (hT.h _ cD).trans g1;have gU : U.h.get S.next = some (.row (bo c) 0 0 false 54) := (hU.h _ cD).trans g1;have kn : S.next < T.next := Nat.lt_of_lt_of_le cD hT.next;have ir : S.next < U.next := Nat.lt_of_lt_of_le cD hU.next;have u1 := hc.sl.sl;have u2 := hc.sl.aO jk (by omega)
 have uk := aW hc.sl;have iv := fp.trans hT;have hU1 := fp.trans hU;have hle := hc.le;have q0 : ((c.bK.length : Int) = 0) = (c.bK.length = 0) := by simp
 have q6 : ((6 : Int) < c.bK.length) = (6 < c.bK.length) := propext ⟨fun h => by omega, fun h => by omega⟩
 have qp : ((0 : Int) < c.bK.length) = (0 < c.bK.length) := propext ⟨fun h => by omega, fun h => by omega⟩
 have qn : ((c.name.length : Int) = 0) = (c.name.length = 0) := by simp
 have wV : ((16 : Int) < c.name.length) = (16 < c.name.length) := propext ⟨fun h => by omega, fun h => by omega⟩
 refine br (dm _) (dn _ rfl) p_fn82 rfl p_ok82 (by simp) fun F hn hs => ?_
 rw [p_nt82] at hn;have s0 := hs 0;clear hs;simp only [List.getElem?_cons_zero, List.getElem?_cons_succ, Option.getD_some, bo, aS] at s0 e1 e2 hS g1 gT gU;unfold m6
 by_cases n1 : c.name.length < 1
 ·have n0 : c.name.length = 0 := by omega
  simp [s0, ← hS, g1, aj cD, aD iE, n0, n1, fp]
 have n0 : ¬ c.name.length = 0 := by omega
 by_cases n2 : 16 < c.name.length
 ·simp [s0, ← hS, g1, aj cD, aD iE, n0, n1, qn, wV, n2, fp]
 by_cases o1 : c.op = 1
 ·simp only [o1] at s0 g1 gT hS
  cases hb : gJ c.val zeroV <;> simp [s0, ← hS, g1, gT, aj cD, aj kn, aD iE, n0, n1, qn, wV, n2, o1, aR, e1, hb, u1, u2, uk, iv]
 by_cases o9 : c.op = 9
 ·simp only [o9] at s0 g1 gT hS
  cases hb : gJ c.val zeroV with
  | false =>
   rw [hb] at e1;simp [s0, ← hS, g1, gT, aj cD, aj kn, aD iE, n0, n1, qn, wV, n2, o1, o9, aR, e1, hb, u1, u2, uk, iv]
  | true =>
   rw [hb] at e1
   by_cases l0 : c.bK.length = 0
   ·simp [s0, ← hS, g1, gT, aj cD, aj kn, aD iE, n0, n1, qn, wV, n2, o1, o9, aR, e1, hb, u1, u2, uk, iv, l0]
   by_cases l6 : 6 < c.bK.length
   ·have l6' : ¬ c.bK.length ≤ 6 := by omega
    simp [s0, ← hS, g1, gT, aj cD, aj kn, aD iE, n0, n1, qn, wV, n2, o1, o9, aR, e1, hb, u1, u2, uk, iv, q0, l0, q6, l6, l6']
   have l1 : 1 ≤ c.bK.length := by omega
   have l6' : c.bK.length ≤ 6 := by omega
   have hans : (if c.name.length < 1 then false else if 16 < c.name.length then false else if c.op = 1 then gJ c.val zeroV && decide (c.bK.length = 0) else if 2 ≤ c.op ∧ c.op ≤ 7 then gP c.val && decide (c.bK.length = 0) else if c.op = 8 then gP c.val && (decide (c.val.kind = 2) && decide (c.bK.length = 0)) else if c.op = 9 then gJ c.val zeroV && (decide (1 ≤ c.bK.length) && (decide (c.bK.length ≤ 6) && zP c)) else false) = zP c := by
    simp [n1, n2, o9, hb, l1, l6']
   simp only [hb] at hans;simp only [hans];simp [s0, ← hS, g1, gT, aj cD, aj kn, aD iE, n0, n1, qn, wV, n2, o1, o9, aR, e1, hb, u1, u2, uk, iv, q0, l0, q6, l6];refine aB (mcH T S.next c) c.bK.length ⟨0, Sub.refl T, fun j v hj => by omega, by simp, by simp, Nat.zero_le _, rfl, by simp [hn]⟩ ?_
   clear s0 hn
   rintro k F' S' df ⟨i, q2, qa, t1, t3, hi, uE, hn⟩
   clear df;have gb := (q2.h _ kn).trans gT;have gu : S.next < S'.next := Nat.lt_of_lt_of_le kn q2.next
   by_cases b9 : i < c.bK.length
   ·obtain ⟨v, hx⟩ : ∃ v, c.bK[i]? = some v := ⟨_, List.getElem?_eq_getElem b9⟩
    have iu := cz (cx := C0) (e := 50) (hc.sub (iv.trans q2)).sl jk (by omega) hx wP uW
    obtain ⟨r, V, ⟨rfl, hV⟩, e3⟩ := (ref81 v S').ex;have iY := aN (i := i) (by omega)
    simp only [aS] at iu e3
    cases hm : gP v with
    | false =>
     rw [hm] at e3;rw [setB_bad (List.mem_of_getElem? hx) hm];simp [t1, t3, gb, aj gu, u1, u2, uk, b9, iu, aR, e3, (iv.trans q2).trans hV]
    | true =>
     rw [hm] at e3;simp [t1, t3, gb, aj gu, u1, u2, uk, b9, iu, aR, e3];exact ⟨c.bK.length - (i + 1), by omega, i + 1, q2.trans hV, fun j w hj hw => by
      by_cases e : j = i
      ·subst e
       rw [hx] at hw; cases hw; exact hm
      ·exact qa j w (by omega) hw, by simp [t1], by simp [iY, -Int.natCast_add], b9, rfl, by simp [hn]⟩
   ·obtain rfl : i = c.bK.length := by omega
    rw [setB_good qa];simp [t1, t3, gb, aj gu, u1, u2, uk, iv.trans q2]
 by_cases o2 : c.op < 2
 ·have o2' : ¬ 2 ≤ c.op := by omega
  have o8 : ¬ c.op = 8 := by omega
  simp [s0, ← hS, g1, aj cD, aD iE, n0, n1, qn, wV, n2, o1, o9, o2, o2', o8, fp]
 by_cases o8 : 8 < c.op
 ·have o2' : 2 ≤ c.op := by omega
  have o7 : ¬ c.op ≤ 7 := by omega
  have o8' : ¬ c.op = 8 := by omega
  simp [s0, ← hS, g1, aj cD, aD iE, n0, n1, qn, wV, n2, o1, o9, o2, o2', o7, o8, o8', fp]
 have o2' : 2 ≤ c.op := by omega
 by_cases l0 : 0 < c.bK.length
 ·have l0' : ¬ c.bK.length = 0 := by omega
  by_cases e8 : c.op = 8
  ·simp only [e8] at s0 g1 hS
   simp [s0, ← hS, g1, aj cD, aD iE, n0, n1, qn, wV, n2, e8, u1, u2, uk, qp, l0, l0', fp]
  ·have o7 : c.op ≤ 7 := by omega
   simp [s0, ← hS, g1, aj cD, aD iE, n0, n1, qn, wV, n2, o1, o9, o2, o2', o7, o8, e8, u1, u2, uk, qp, l0, l0', fp]
 have l0' : c.bK.length = 0 := by omega
 by_cases e8 : c.op = 8
 ·simp only [e8] at s0 g1 gU hS
  cases hm : gP c.val with
  | false =>
   rw [hm] at e2;simp [s0, ← hS, g1, aj cD, aD iE, n0, n1, qn, wV, n2, e8, u1, u2, uk, qp, l0', aR, e2, hU1]
  | true =>
   rw [hm] at e2
   by_cases k2 : c.val.kind = 2
   ·simp only [k2] at s0 g1 gU hS e2
    simp [s0, ← hS, g1, gU, aj cD, aj ir, aD iE, n0, n1, qn, wV, n2, e8, u1, u2, uk, qp, l0', aR, e2, k2, hU1]
   ·simp [s0, ← hS, g1, gU, aj cD, aj ir, aD iE, n0, n1, qn, wV, n2, e8, u1, u2, uk, qp, l0', aR, e2, k2, hU1]
 ·have o7 : c.op ≤ 7 := by omega
  cases hm : gP c.val with
  | false =>
   rw [hm] at e2;simp [s0, ← hS, g1, aj cD, aD iE, n0, n1, qn, wV, n2, o1, o9, o2, o2', o7, o8, e8, u1, u2, uk, qp, l0', aR, e2, hU1]
  | true =>
   rw [hm] at e2;simp [s0, ← hS, g1, gU, aj cD, aj ir, aD iE, n0, n1, qn, wV, n2, o1, o9, o2, o2', o7, o8, e8, u1, u2, uk, qp, l0', aR, e2, hU1]
theorem p_nt50 : Tryz.f50.ntmps = 19 := by kernel_rfl
def mpH (S1 : AS) (p : AV) (cs : List de) (k : Nat) (F' : Fr) (S' : AS) : Prop :=
 ∃ i : Nat, Sub S1 S' ∧ (∀ j c, j < i → cs[j]? = some c → m6 c = true) ∧ sl F' 0 = p ∧ sl F' 3 = .int .i64 (i : Int) ∧ i ≤ cs.length ∧ k = cs.length - i ∧ F'.n = 19
theorem mayP_good {cs : List de} (h : ∀ j c, j < cs.length → cs[j]? = some c → m6 c = true) : jZ cs = decide (cs.length ≤ 6) := by
 unfold jZ;have : (cs.any fun c => !m6 c) = false := by
  rw [List.any_eq_false];intro v hv;obtain ⟨j, hj, e⟩ := List.mem_iff_getElem.1 hv;have := h j v hj (by rw [List.getElem?_eq_getElem hj, e])
  simp [this]
 rw [this]; simp
theorem mayP_bad {cs : List de} {c : de} (h : c ∈ cs) (hv : m6 c = false) : jZ cs = false := by
 unfold jZ;have : (cs.any fun c => !m6 c) = true := List.any_eq_true.2 ⟨c, h, by rw [hv]; rfl⟩
 rw [this]; simp
theorem ref50 {S : AS} {p : AV} {cs : List de} (hp : js S p cs) : ai C0 50 [p] S fun r T => r = .bool (jZ cs) ∧ Sub S T := by
 have u1 := hp.sl.sl;have u2 := hp.sl.aO dy (by omega)
 have uk := aW hp.sl;have hle := hp.le;have q6 : ((cs.length : Int) ≤ 6) = (cs.length ≤ 6) := propext ⟨fun h => by omega, fun h => by omega⟩
 refine cv (dm _) (dn _ rfl) p_fn50 rfl p_ok50 (by simp) fun F hn s0 => ?_
 rw [p_nt50] at hn;simp [s0];refine aB (mpH S p cs) cs.length ⟨0, Sub.refl S, fun j v hj => by omega, by simp [s0], by simp, Nat.zero_le _, rfl, by simp [hn]⟩ ?_
 clear s0 hn
 rintro k F' S' df ⟨i, q2, qa, t0, t3, hi, uE, hn⟩
 clear df
 by_cases b9 : i < cs.length
 ·obtain ⟨c, hx⟩ : ∃ c, cs[i]? = some c := ⟨_, List.getElem?_eq_getElem b9⟩
  have iu := cz (cx := C0) (e := 54) (hp.sub q2).sl dy (by omega) hx p_ag54 p_sz54
  obtain ⟨r, V, ⟨rfl, hV⟩, e3⟩ := (ref82 c ((hp.sub q2).con c (List.mem_of_getElem? hx))).ex;have iY := aN (i := i) (by omega)
  cases hm : m6 c with
  | false =>
   rw [hm] at e3;rw [mayP_bad (List.mem_of_getElem? hx) hm];simp [t0, t3, u1, u2, uk, b9, iu, aR, e3, q2.trans hV]
  | true =>
   rw [hm] at e3;simp [t0, t3, u1, u2, uk, b9, iu, aR, e3];exact ⟨cs.length - (i + 1), by omega, i + 1, q2.trans hV, fun j w hj hw => by
    by_cases e : j = i
    ·subst e
     rw [hx] at hw; cases hw; exact hm
    ·exact qa j w (by omega) hw, by simp [t0], by simp [iY, -Int.natCast_add], b9, rfl, by simp [hn]⟩
 ·obtain rfl : i = cs.length := by omega
  rw [mayP_good qa];simp [t0, t3, u1, u2, uk, q6, q2]
theorem p_nt83 : Tryz.f83.ntmps = 91 := by kernel_rfl
def hoH (S1 : AS) (b : Nat) (c : de) (x : gN) (k : Nat) (F' : Fr) (S' : AS) : Prop :=
 ∃ i : Nat, Sub S1 S' ∧ (∀ j v, j < i → c.bK[j]? = some v → cM x v ≠ 0) ∧ sl F' 2 = .ptr b 0 0 7 ∧ sl F' 3 = .ptr (b + 1) 0 0 4 ∧ sl F' 5 = .int .i64 (i : Int) ∧ i ≤ c.bK.length ∧ k = c.bK.length - i ∧ F'.n = 91
set_option maxRecDepth 20000 in
set_option maxHeartbeats 4000000 in
theorem ref83 (c : de) (x : gN) {S : AS} (hc : kC S c) : ai C0 83 [.agg (bo c), .agg (aS x)] S fun r T => r = .bool (aY c x) ∧ Sub S T := by
 obtain ⟨S1, hS⟩ : ∃ S1 : AS, S1 = ⟨(S.h.set S.next (.row (bo c) 0 0 false 54)).set (S.next + 1) (.row (aS x) 0 0 false 50), S.next + 2⟩ := ⟨_, rfl⟩;have fp : Sub S S1 := by rw [hS]; exact kD
 have hSn : S1.next = S.next + 2 := by rw [hS]
 have g1 : S1.h.get S.next = some (.row (bo c) 0 0 false 54) := by
  rw [hS];show ((S.h.set _ _).set _ _).get _ = _;rw [ae _ _ (by omega)]; exact aa _ _ _
 have g2 : S1.h.get (S.next + 1) = some (.row (aS x) 0 0 false 50) := by rw [hS]; exact aa _ _ _
 have cD : S.next < S1.next := by omega
 have gu : S.next + 1 < S1.next := by omega
 obtain ⟨r, T, ⟨rfl, hT⟩, e1⟩ := (ref122 x c.val S1).ex;have gT : T.h.get S.next = some (.row (bo c) 0 0 false 54) := (hT.h _ cD).trans g1;have gU : T.h.get (S.next + 1) = some (.row (aS x) 0 0 false 50) := (hT.h _ gu).trans g2;have kn : S.next < T.next := Nat.lt_of_lt_of_le cD hT.next;have ir : S.next + 1 < T.next := Nat.lt_of_lt_of_le gu hT.next;have u1 := hc.sl.sl;have u2 := hc.sl.aO jk (by omega)
 have uk := aW hc.sl;have iv := fp.trans hT;have hle := hc.le;refine br (dm _) (dn _ rfl) p_fn83 rfl p_ok83 (by simp) fun F hn hs => ?_
 rw [p_nt83] at hn;have s0 := hs 0;have s1 := hs 1;clear hs;simp only [List.getElem?_cons_zero, List.getElem?_cons_succ, Option.getD_some, bo, aS] at s0 s1 e1 hS g1 g2 gT gU;unfold aY
 by_cases o1 : c.op = 1
 ·simp only [o1] at s0 g1 hS
  simp [s0, s1, ← hS, g1, g2, aj cD, aj gu, o1, fp]
 by_cases o9 : c.op = 9
 ·simp only [o9] at s0 g1 hS
  simp [s0, s1, ← hS, g1, g2, aj cD, aj gu, o1, o9];refine aB (hoH S1 S.next c x) c.bK.length ⟨0, Sub.refl S1, fun j v hj => by omega, by simp, by simp, by simp, Nat.zero_le _, rfl, by simp [hn]⟩ ?_
  clear s0 s1 hn e1 gT gU kn ir iv hT T
  rintro k F' S' df ⟨i, q2, qa, t2, t3, t5, hi, uE, hn⟩
  clear df;have gb := (q2.h _ cD).trans g1;have gc := (q2.h _ gu).trans g2;have wX : S.next < S'.next := Nat.lt_of_lt_of_le cD q2.next;have lt2 : S.next + 1 < S'.next := Nat.lt_of_lt_of_le gu q2.next
  by_cases b9 : i < c.bK.length
  ·obtain ⟨v, hx⟩ : ∃ v, c.bK[i]? = some v := ⟨_, List.getElem?_eq_getElem b9⟩
   have iu := cz (cx := C0) (e := 50) (hc.sub (fp.trans q2)).sl jk (by omega) hx wP uW
   obtain ⟨r, V, ⟨rfl, hV⟩, e3⟩ := (ref122 x v S').ex;have iY := aN (i := i) (by omega)
   simp only [aS] at iu e3
   by_cases hz : cM x v = 0
   ·have hany : (c.bK.any fun y => decide (cM x y = 0)) = true := List.any_eq_true.2 ⟨v, List.mem_of_getElem? hx, by simp [hz]⟩
    rw [hz] at e3;simp [t2, t3, t5, gb, gc, aj wX, aj lt2, u1, u2, uk, b9, hn];refine aA [.r 0 0, .p, .r 0 0, .p, .p, .r 0 0, .e [], .p] (n := 91) (by kernel_rfl) (by simp [hn]) ?_
    simp [t2, t3, t5, gb, gc, aj wX, aj lt2, u1, u2, uk, b9, iu, aR, e3];exact ⟨⟨v, List.mem_of_getElem? hx, hz⟩, (fp.trans q2).trans hV⟩
   ·simp [t2, t3, t5, gb, gc, aj wX, aj lt2, u1, u2, uk, b9, hn]
    refine aA [.r 0 0, .p, .r 0 0, .p, .p, .r 0 0, .e [], .p] (n := 91) (by kernel_rfl) (by simp [hn]) ?_
    simp [t2, t3, t5, gb, gc, aj wX, aj lt2, u1, u2, uk, b9, iu, aR, e3, hz];exact ⟨c.bK.length - (i + 1), by omega, i + 1, q2.trans hV, fun j w hj hw => by
     by_cases e : j = i
     ·subst e
      rw [hx] at hw; cases hw; exact hz
     ·exact qa j w (by omega) hw, by simp [t2], by simp [t3], by simp [iY, -Int.natCast_add], b9, rfl, by simp [hn]⟩
  ·obtain rfl : i = c.bK.length := by omega
   simp [t2, t3, t5, gb, gc, aj wX, aj lt2, u1, u2, uk];exact ⟨fun y hy => by
    obtain ⟨j, hj, e⟩ := List.mem_iff_getElem.1 hy;exact qa j y hj (by rw [List.getElem?_eq_getElem hj, e]), fp.trans q2⟩
 by_cases hk : x.kind = c.val.kind
 ·simp only [hk] at s1 e1 hS g2 gU
  by_cases o2 : c.op = 2
  ·simp only [o2] at s0 g1 gT hS
   simp [s0, s1, ← hS, g1, g2, gT, gU, aj cD, aj gu, aj kn, aj ir, o2, hk, aR, e1, iv]
  by_cases o3 : c.op = 3
  ·simp only [o3] at s0 g1 gT hS
   simp [s0, s1, ← hS, g1, g2, gT, gU, aj cD, aj gu, aj kn, aj ir, o3, hk, aR, e1, iv]
  by_cases o4 : c.op = 4
  ·simp only [o4] at s0 g1 gT hS
   simp [s0, s1, ← hS, g1, g2, gT, gU, aj cD, aj gu, aj kn, aj ir, o4, hk, aR, e1, iv]
  by_cases o5 : c.op = 5
  ·simp only [o5] at s0 g1 gT hS
   simp [s0, s1, ← hS, g1, g2, gT, gU, aj cD, aj gu, aj kn, aj ir, o5, hk, aR, e1, iv]
  by_cases o6 : c.op = 6
  ·simp only [o6] at s0 g1 gT hS
   simp [s0, s1, ← hS, g1, g2, gT, gU, aj cD, aj gu, aj kn, aj ir, o6, hk, aR, e1, iv]
  by_cases o7 : c.op = 7
  ·simp only [o7] at s0 g1 gT hS
   simp [s0, s1, ← hS, g1, g2, gT, gU, aj cD, aj gu, aj kn, aj ir, o7, hk, aR, e1, iv]
  by_cases o8 : c.op = 8
  ·simp only [o8] at s0 g1 gT hS
   simp [s0, s1, ← hS, g1, g2, gT, gU, aj cD, aj gu, aj kn, aj ir, o8, hk, aR, e1, aD iE, hn];refine jQ (n := 91) (by kernel_rfl) (by simp [hn]) ?_
   unfold ie
   by_cases k2 : c.val.kind = 2
   ·simp only [k2] at s0 s1 g1 g2 gT gU
    by_cases h : c.val.str.length ≤ x.str.length
    ·have h' : (c.val.str.length : Int) ≤ (x.str.length : Int) := by omega
     simp [gT, gU, aj kn, aj ir, k2, aD iE, h, h', yi (m := c.val.str.length), iv]
    ·have h' : ¬ (c.val.str.length : Int) ≤ (x.str.length : Int) := by omega
     simp [gT, gU, aj kn, aj ir, k2, aD iE, h, h', iv]
   ·simp [gT, gU, aj kn, aj ir, k2, aD iE, iv]
  simp [s0, s1, ← hS, g1, g2, gT, gU, aj cD, aj gu, aj kn, aj ir, o1, o2, o3, o4, o5, o6, o7, o8, o9, hk, aR, e1, iv]
 ·simp [s0, s1, ← hS, g1, g2, aj cD, aj gu, o1, o9, hk, fp]
  intro _ _ _ _ _ _ _ h1 h2;exact absurd (h1.trans h2.symm) hk
theorem p_nt51 : Tryz.f51.ntmps = 53 := by kernel_rfl
theorem Cp {cs : List de} {l : List dD} (h : ∀ j c, j < cs.length → cs[j]? = some c → lK l c = false) : di cs l = true := by
 unfold di;have : cs.any (lK l) = false := by
  rw [List.any_eq_false];intro v hv;obtain ⟨j, hj, e⟩ := List.mem_iff_getElem.1 hv;have := h j v hj (by rw [List.getElem?_eq_getElem hj, e])
  simp [this]
 rw [this]; rfl
theorem vE {cs : List de} {l : List dD} {c : de} (h : c ∈ cs) (hv : lK l c = true) : di cs l = false := by
 unfold di;rw [List.any_eq_true.2 ⟨c, h, hv⟩]; rfl
def m1H (S1 : AS) (b : Nat) (p : AV) (cs : List de) (l : List dD) (k : Nat) (F' : Fr) (S' : AS) : Prop :=
 ∃ i : Nat, Sub S1 S' ∧ (∀ j c, j < i → cs[j]? = some c → lK l c = false) ∧ sl F' 0 = p ∧ sl F' 3 = .ptr b 0 0 2 ∧ sl F' 5 = .int .i64 (i : Int) ∧ i ≤ cs.length ∧ k = cs.length - i ∧ F'.n = 53
def m2H (S1 : AS) (b : Nat) (p : AV) (l : List dD) (c : de) (i : Nat) (k : Nat) (F' : Fr) (S' : AS) : Prop :=
 S' = S1 ∧ ∃ j : Nat, (∀ m a, m < j → l[m]? = some a → fX a.name c.name = false) ∧ sl F' 0 = p ∧ sl F' 3 = .ptr b 0 0 2 ∧ sl F' 5 = .int .i64 (i : Int) ∧ sl F' 6 = .int .i64 (j : Int) ∧ j ≤ l.length ∧ k = l.length - j ∧ F'.n = 53
def m2M (S1 : AS) (b : Nat) (p : AV) (l : List dD) (c : de) (i : Nat) (F' : Fr) (S' : AS) : Prop :=
 S' = S1 ∧ ∃ j : Nat, (∀ m a, m < j → l[m]? = some a → fX a.name c.name = false) ∧ (∀ a, l[j]? = some a → fX a.name c.name = true) ∧ sl F' 0 = p ∧ sl F' 3 = .ptr b 0 0 2 ∧ sl F' 5 = .int .i64 (i : Int) ∧ sl F' 6 = .int .i64 (j : Int) ∧ j ≤ l.length ∧ F'.n = 53
set_option maxRecDepth 20000 in
set_option maxHeartbeats 4000000 in
theorem ref51 {S : AS} {p : AV} {cs : List de} {key : List Nat} {u : AV} {l : List dD} (hp : js S p cs) (hu : eF S u l) :
  ai C0 51 [p, .agg [.str key, u]] S fun r T => r = .bool (di cs l) ∧ Sub S T := by
 obtain ⟨S1, hS⟩ : ∃ S1 : AS, S1 = ⟨S.h.set S.next (.row [.str key, u] 0 0 false 33), S.next + 1⟩ := ⟨_, rfl⟩;have fp : Sub S S1 := by rw [hS]; exact cS
 have hSn : S1.next = S.next + 1 := by rw [hS]
 have g1 : S1.h.get S.next = some (.row [.str key, u] 0 0 false 33) := by rw [hS]; exact aa _ _ _
 have cD : S.next < S1.next := by omega
 have u1 := hu.sl.sl;have u2 := hu.sl.aO bG (by omega)
 have uk := aW hu.sl;have uo := hu.sl.ok;have p1 := hp.sl.sl;have p2 := hp.sl.aO dy (by omega)
 have pk := aW hp.sl;have po := hp.sl.ok;have hle := hu.le;have hlp := hp.le;refine cU (dm _) (dn _ rfl) p_fn51 rfl p_ok51 (by simp) fun F hn s0 s1 => ?_
 rw [p_nt51] at hn;simp [s0, s1, hu.sl.cells, ← hS];refine aB (m1H S1 S.next p cs l) cs.length ⟨0, Sub.refl S1, fun j v hj => by omega, by simp [s0], by simp, by simp, Nat.zero_le _, rfl, by simp [hn]⟩ ?_
 clear s0 s1 hn
 rintro k F' S' df ⟨i, q2, qa, t0, t3, t5, hi, uE, hn⟩
 clear df;have gb := (q2.h _ cD).trans g1;have wX : S.next < S'.next := Nat.lt_of_lt_of_le cD q2.next;have lG := hu.sub (fp.trans q2);have pU := hp.sub (fp.trans q2)
 by_cases b9 : i < cs.length
 ·obtain ⟨c, hx⟩ : ∃ c, cs[i]? = some c := ⟨_, List.getElem?_eq_getElem b9⟩
  have iY := aN (i := i) (by omega)
  have hpc := ik (k := i) p1 (by rw [p2]; exact b9)
  have lc := gL (cx := C0) (e := 9) (o := 0) (y := .str c.name) pU.sl dy (by omega) hx rfl ag9
  have lcc := cz (cx := C0) (e := 54) pU.sl dy (by omega) hx p_ag54 p_sz54
  simp [-bC, t0, t3, t5, p1, p2, b9];rw [bC];simp [-bC, t0, t3, t5, p1, p2, b9];refine iB (m2M S' S.next p l c i) ?_ ?_
  ·rw [bC, gY]
   refine aB (m2H S' S.next p l c i) l.length ⟨rfl, 0, fun j v hj => by omega, by simp [t0], by simp [t3], by simp [t5], by simp, Nat.zero_le _, rfl, by simp [hn]⟩ ?_
   clear t0 t3 t5 hn
   rintro k2 F2 S2 df ⟨rfl, j, ra, t0, t3, t5, t6, hj, xy, hn⟩
   clear df;simp [hn];refine jQ (n := 53) (by kernel_rfl) (by simp [hn]) ?_
   have oc := lu hpc 0
   by_cases rI : j < l.length
   ·obtain ⟨a, ha⟩ : ∃ a, l[j]? = some a := ⟨_, List.getElem?_eq_getElem rI⟩
    have hpa := ik (k := j) u1 (by rw [u2]; exact rI)
    have la := gL (cx := C0) (e := 9) (o := 0) (y := .str a.name) lG.sl bG (by omega) ha rfl ag9
    have oa := lu hpa 0;have nc := aN (i := j) (by omega)
    cases he : fX a.name c.name with
    | true =>
     simp [t0, t3, t5, t6, gb, aj wX, u1, u2, uk, uo, p1, p2, pk, po, b9, rI, bl hpa, bl hpc, la, lc, he, oa, oc];exact ⟨rfl, j, ra, fun b hb => (by rw [ha] at hb; cases hb; exact he), by simp [t0], by simp [t3], by simp [t5], by simp [t6], hj, by simp [hn]⟩
    | false =>
     simp [t0, t3, t5, t6, gb, aj wX, u1, u2, uk, uo, p1, p2, pk, po, b9, rI, bl hpa, bl hpc, la, lc, he, oa, oc];exact ⟨l.length - (j + 1), by omega, rfl, j + 1, fun m b hm hb => by
      by_cases e : m = j
      ·subst e
       rw [ha] at hb; cases hb; exact he
      ·exact ra m b (by omega) hb, by simp [t0], by simp [t3], by simp [t5], by simp [nc, -Int.natCast_add], rI, rfl, by simp [hn]⟩
   ·obtain rfl : j = l.length := by omega
    simp [t0, t3, t5, t6, gb, aj wX, u1, u2, uk, uo];exact ⟨rfl, l.length, ra, fun b hb => (by rw [List.getElem?_eq_none (Nat.le_refl _)] at hb; cases hb), by simp [t0], by simp [t3], by simp [t5], by simp [t6], Nat.le_refl _, by simp [hn]⟩
  ·clear t0 t3 t5 hn
   rintro F2 S2 ⟨rfl, j, ra, rb, t0, t3, t5, t6, hj, hn⟩
   simp [hn];refine aA [.p, .p, .r 0 0, .r 0 0, .p, .p, .p, .p, .p, .r 0 0, .p, .r 0 0, .p, .p, .p, .r 0 0, .e [], .p, .p] (n := 53) (by kernel_rfl) (by simp [hn]) ?_
   by_cases rI : j < l.length
   ·obtain ⟨a, ha⟩ : ∃ a, l[j]? = some a := ⟨_, List.getElem?_eq_getElem rI⟩
    have hg := getA_at ha (rb a ha) ra;have hpa := ik (k := j) u1 (by rw [u2]; exact rI)
    have lv := oF (cx := C0) (e := 50) (o := 1) (n' := 4) lG.sl bG (by omega) ha (by omega) wP uW
    simp [eQ] at lv;simp only [aS] at lv;have bO : ¬ (j : Int) = (l.length : Int) := by omega
    obtain ⟨r, V, ⟨rfl, hV⟩, e3⟩ := (ref83 c a.val (pU.con c (List.mem_of_getElem? hx))).ex;simp only [aS] at e3;have hf : lK l c = !aY c a.val := by unfold lK; rw [hg]
    cases hh : aY c a.val with
    | false =>
     rw [hh] at e3 hf;rw [vE (List.mem_of_getElem? hx) hf];simp [t0, t3, t5, t6, gb, aj wX, u1, u2, uk, p1, p2, pk, b9, rI, bO, bl hpa, lv, lcc, aR, e3];exact (fp.trans q2).trans hV
    | true =>
     rw [hh] at e3 hf;simp [t0, t3, t5, t6, gb, aj wX, u1, u2, uk, p1, p2, pk, b9, rI, bO, bl hpa, lv, lcc, aR, e3];exact ⟨cs.length - (i + 1), by omega, i + 1, q2.trans hV, fun m d hm hd => by
      by_cases e : m = i
      ·subst e
       rw [hx] at hd; cases hd; exact hf
      ·exact qa m d (by omega) hd, by simp [t0], by simp [t3], by simp [iY, -Int.natCast_add], b9, rfl, by simp [hn]⟩
   ·obtain rfl : j = l.length := by omega
    have hg := CO ra;have hf : lK l c = true := by unfold lK; rw [hg]
    rw [vE (List.mem_of_getElem? hx) hf];simp [t0, t3, t5, t6, gb, aj wX, u1, u2, uk];exact fp.trans q2
 ·obtain rfl : i = cs.length := by omega
  rw [Cp qa];simp [t0, t3, t5, p1, p2, fp.trans q2]
theorem p_fn49 : C0.fns.get 49 = some Tryz.f49 := by kernel_rfl
theorem p_ok49 : codeOk C0 Tryz.f49.ntmps (Tryz.f49.body.getD .skip) = true := by kernel_rfl
@[simp] theorem p_fa60_0 : fieldAt C0 60 0 = some 0 := by kernel_rfl
@[simp] theorem p_fa60_1 : fieldAt C0 60 1 = some 1 := by kernel_rfl
theorem p_nt49 : Tryz.f49.ntmps = 46 := by kernel_rfl
structure gf (S : AS) (y : Nat) (ns : List Nat) (es : List kN) : Prop where
 row : ∃ vn ve, S.h.get y = some (.row [vn, ve] 0 0 false 60) ∧ Sl S vn 1 (cI ns) ∧ Sl S ve 2 (es.flatMap fY)
 lt : y < S.next
 kK : ∀ e, e ∈ es → eF S e.u e.ar
 nm : ∀ e, e ∈ es → Names e.ar
 len : ns.length = es.length
 zQ : ns.Pairwise (· < ·)
 le : ns.length ≤ 1048576
def place (ns : List Nat) (n : Nat) : Nat := (ns.takeWhile fun m => decide (m < n)).length
theorem place_le (ns : List Nat) (n : Nat) : place ns n ≤ ns.length := by
 unfold place;exact (List.takeWhile_sublist _).length_le
theorem Cg {ns : List Nat} {n i : Nat} (h : ∀ j m, j < i → ns[j]? = some m → m < n) (hi : i ≤ ns.length) (hx : ∀ m, ns[i]? = some m → ¬ m < n) : place ns n = i := by
 unfold place
 induction ns generalizing i with
 | nil => simp at hi; subst hi; rfl
 | cons a ns ih =>
  cases i with
  | zero =>
   have := hx a rfl;simp [this]
  | succ i =>
   have h0 := h 0 a (by omega) rfl
   simp [h0];exact ih (fun j m hj hm => h (j + 1) m (by omega) (by simpa using hm)) (by simpa using hi) (fun m hm => hx m (by simpa using hm))
def atH (S : AS) (y : Nat) (ns : List Nat) (n : Nat) (k : Nat) (F' : Fr) (S' : AS) : Prop :=
 S' = S ∧ ∃ i : Nat, (∀ j m, j < i → ns[j]? = some m → m < n) ∧ sl F' 0 = .ptr y 0 0 2 ∧ sl F' 1 = .int .u64 (n : Int) ∧ sl F' 6 = .int .i64 (i : Int) ∧ i ≤ ns.length ∧ k = ns.length - i ∧ F'.n = 46
theorem at49 {S : AS} {y n : Nat} {ns : List Nat} {es : List kN} (h : gf S y ns es) :
  ai C0 49 [.ptr y 0 0 2, .int .u64 (n : Int)] S fun r T => T = S ∧ r = .tuple [.int .i64 (place ns n : Int), .bool (decide (ns[place ns n]? = some n))] := by
 obtain ⟨vn, ve, g, qV, tD⟩ := h.row;have aL := h.lt;have u1 := qV.sl;have u2 := qV.sm;rw [ek] at u2;have uk := aW qV;have uo := qV.ok;have hle := h.le;refine cU (dm _) (dn _ rfl) p_fn49 rfl p_ok49 (by simp) fun F hn s0 s1 => ?_
 rw [p_nt49] at hn;simp [s0, s1];refine aB (atH S y ns n) ns.length ⟨rfl, 0, fun j v hj => by omega, by simp [s0], by simp [s1], by simp, Nat.zero_le _, rfl, by simp [hn]⟩ ?_
 clear s0 s1 hn
 rintro k F' S' df ⟨rfl, i, ra, t0, t1, t6, hi, hk, hn⟩
 clear df
 by_cases b9 : i < ns.length
 ·obtain ⟨x, hx⟩ : ∃ x, ns[i]? = some x := ⟨_, List.getElem?_eq_getElem b9⟩
  have iu := lB (cx := C0) (e := 30) qV (qP hx) ag30;have hpx := ik (k := i) u1 (by rw [u2]; exact b9)
  have iY := aN (i := i) (by omega)
  by_cases hlx : x < n
  ·have hlx' : (x : Int) < (n : Int) := by omega
   simp [t0, t1, t6, g, aj aL, u1, u2, uk, b9, iu, hlx'];exact ⟨ns.length - (i + 1), by omega, rfl, i + 1, fun j m hj hm => by
    by_cases e : j = i
    ·subst e
     rw [hx] at hm; cases hm; exact hlx
    ·exact ra j m (by omega) hm, by simp [t0], by simp [t1], by simp [iY, -Int.natCast_add], b9, rfl, by simp [hn]⟩
  ·have hlx' : ¬ (x : Int) < (n : Int) := by omega
   have lH := Cg ra hi (fun m hm => by rw [hx] at hm; cases hm; exact hlx)
   simp [t0, t1, t6, g, aj aL, u1, u2, uk, b9, iu, hlx', hn];refine jQ (n := 46) (by kernel_rfl) (by simp [hn]) ?_
   have oa := lu hpx 0;have oy : oW (rW vn i) = true := by cases hq : rW vn i <;> rw [hq] at hpx <;> first | rfl | cases hpx
   have hans : (x = n) = (ns[place ns n]? = some n) := by rw [lH, hx]; simp
   by_cases hxn : x = n
   ·have hxn' : (x : Int) = (n : Int) := by omega
    simp [t0, t1, t6, g, aj aL, u1, u2, uk, uo, b9, iu, oy, hxn', lH, hx, hxn];exact ((List.getElem?_eq_some_iff.1 hx).2).trans hxn
   ·have hxn' : ¬ (x : Int) = (n : Int) := by omega
    simp [t0, t1, t6, g, aj aL, u1, u2, uk, uo, b9, iu, oy, hxn', lH, hx, hxn];exact fun h => hxn (((List.getElem?_eq_some_iff.1 hx).2).symm.trans h)
 ·obtain rfl : i = ns.length := by omega
  have lH := Cg ra hi (fun m hm => by rw [List.getElem?_eq_none (Nat.le_refl _)] at hm; cases hm)
  simp [t0, t1, t6, g, aj aL, u1, u2, uk, hn];refine jQ (n := 46) (by kernel_rfl) (by simp [hn]) ?_
  simp [t0, t1, t6, g, aj aL, u1, u2, uk, uo, lH]
theorem p_fn22 : C0.fns.get 22 = some Tryz.f22 := by kernel_rfl
theorem p_ok22 : codeOk C0 Tryz.f22.ntmps (Tryz.f22.body.getD .skip) = true := by kernel_rfl
theorem p_fn24 : C0.fns.get 24 = some Tryz.f24 := by kernel_rfl
theorem p_ok24 : codeOk C0 Tryz.f24.ntmps (Tryz.f24.body.getD .skip) = true := by kernel_rfl
@[simp] theorem p_ag22 : aE C0 22 = some false := by kernel_rfl
@[simp] theorem p_sz22 : aw C0 22 = some 1 := by kernel_rfl
@[simp] theorem rV : kP C0 22 = some (33, 2, 40) := by kernel_rfl
theorem EL : aZ C0 38 = some (.slice 30) := by kernel_rfl
@[simp] theorem nG : kP C0 38 = some (30, 1, 8) := by kernel_rfl
@[simp] theorem p_ag33 : aE C0 33 = some true := by kernel_rfl
@[simp] theorem p_sz33 : aw C0 33 = some 2 := by kernel_rfl
theorem p_nt22 : Tryz.f22.ntmps = 40 := by kernel_rfl
theorem p_nt24 : Tryz.f24.ntmps = 34 := by kernel_rfl
theorem gf.sub {S T : AS} {y : Nat} {ns : List Nat} {es : List kN} (h : gf S y ns es) (hs : Sub S T) : gf T y ns es := by
 obtain ⟨vn, ve, g, h1, h2⟩ := h.row;exact { h with row := ⟨vn, ve, (hs.h _ h.lt).trans g, h1.toSub hs, h2.toSub hs⟩, lt := Nat.lt_of_lt_of_le h.lt hs.next, kK := fun e he => (h.kK e he).sub hs }
noncomputable def jb (ns : List Nat) (es : List kN) (cs : List de) (i : Nat) : List Nat := ((ns.zip es).take i).filterMap fun x => if di cs x.2.ar then some x.1 else none
theorem D3 {ns : List Nat} {es : List kN} {cs : List de} {i n : Nat} {e : kN} (h1 : ns[i]? = some n) (h2 : es[i]? = some e) : jb ns es cs (i + 1) = jb ns es cs i ++ (if di cs e.ar then [n] else []) := by
 have hz : (ns.zip es)[i]? = some (n, e) := by rw [List.getElem?_zip_eq_some]; exact ⟨h1, h2⟩
 obtain ⟨hi, he⟩ := List.getElem?_eq_some_iff.1 hz;unfold jb;rw [List.take_succ_eq_append_getElem hi, List.filterMap_append, he]
 cases hm : di cs e.ar <;> simp [hm]
def q22H (S : AS) (y : Nat) (p : AV) (ns : List Nat) (es : List kN) (cs : List de) (k : Nat) (F' : Fr) (S' : AS) : Prop :=
 ∃ (i : Nat) (z : AV), Sub S S' ∧ Own S' S.next z 1 30 (cI (jb ns es cs i)) ∧ sl F' 0 = .ptr y 0 0 2 ∧ sl F' 1 = p ∧ sl F' 6 = z ∧ sl F' 7 = .int .i64 (i : Int) ∧ i ≤ ns.length ∧ k = ns.length - i ∧ F'.n = 40
theorem ye (ns : List Nat) (es : List kN) (cs : List de) (i : Nat) : (jb ns es cs i).length ≤ i := by
 unfold jb;refine Nat.le_trans (List.length_filterMap_le _ _) ?_;rw [List.length_take]; omega
theorem fits8p {n : Nat} (h : n ≤ 2097152) : fits n 8 = true := by
 unfold fits;simp only [cg, Bool.and_eq_true, decide_eq_true_eq];have : n.mul 8 = n * 8 := rfl
 constructor <;> omega
set_option maxHeartbeats 2000000 in
theorem ref22 {S : AS} {y : Nat} {ns : List Nat} {es : List kN} {p : AV} {cs : List de} (h : gf S y ns es) (hp : js S p cs) :
  ai C0 22 [.ptr y 0 0 2, p] S fun r T => Sub S T ∧ ((jZ cs = false ∧ r = .tuple [.aH, .int .i64 30]) ∨ (jZ cs = true ∧ ∃ z, r = .tuple [z, .int .i64 0] ∧ Sl T z 1 (cI (jb ns es cs ns.length)))) := by
 have hle := h.le;have pk := aW hp.sl;obtain ⟨r, T, ⟨rfl, hT⟩, e1⟩ := (ref50 hp).ex;refine cU (dm _) (dn _ rfl) p_fn22 rfl p_ok22 (by simp) fun F hn s0 s1 => ?_
 rw [p_nt22] at hn
 cases hm : jZ cs with
 | false =>
  rw [hm] at e1;simp [s0, s1, aR, e1, pk, hT]
 | true =>
 rw [hm] at e1;simp [s0, s1, aR, e1, pk];refine aB (q22H T y p ns es cs) ns.length ⟨0, .aH, Sub.refl T, by simpa [jb, cI] using Own.nil, by simp [s0], by simp [s1], by simp, by simp, Nat.zero_le _, rfl, by simp [hn]⟩ ?_
 clear s0 s1 hn e1
 rintro k F' S' df ⟨i, z, q2, p2, t0, t1, t6, t7, hi, hk, hn⟩
 clear df;have h1 := h.sub (hT.trans q2);have pU := hp.sub (hT.trans q2);obtain ⟨vn, ve, g, qV, tD⟩ := h1.row;have wX := h1.lt;have u1 := qV.sl;have u2 := qV.sm;rw [ek] at u2;have uk := aW qV;have w1 := tD.sl;have w2 := tD.aO ey (by have := h.len; omega)
 have wk := aW tD;have hlen := h.len
 by_cases b9 : i < ns.length
 ·obtain ⟨n, hx⟩ : ∃ n, ns[i]? = some n := ⟨_, List.getElem?_eq_getElem b9⟩
  have hie : i < es.length := by omega
  obtain ⟨e, xu⟩ : ∃ e, es[i]? = some e := ⟨_, List.getElem?_eq_getElem hie⟩;have hein := List.mem_of_getElem? xu;have iu := cz (cx := C0) (e := 33) tD ey (by omega) xu p_ag33 p_sz33
  obtain ⟨r, U, ⟨rfl, hU⟩, e3⟩ := (ref51 (key := e.key) pU (h1.kK e hein)).ex;have hln := lB (cx := C0) (e := 30) (qV.toSub hU) (qP hx) ag30;have gU := (hU.h _ wX).trans g;have ltU : y < U.next := Nat.lt_of_lt_of_le wX hU.next;have iY := aN (i := i) (by omega)
  have wZ := D3 (cs := cs) hx xu;simp only [fY] at iu
  cases CG : di cs e.ar with
  | false =>
   rw [CG] at e3 wZ;simp [t0, t1, t6, t7, g, aj wX, u1, u2, uk, w1, w2, wk, b9, hie, iu, aR, e3];exact ⟨ns.length - (i + 1), by omega, i + 1, z, q2.trans hU, by rw [wZ]; simpa using p2.sub hU, by simp [t0], by simp [t1], by simp [t6], by simp [iY, -Int.natCast_add], b9, rfl, by simp [hn]⟩
  | true =>
   rw [CG] at e3 wZ;have uf := p2.sub hU;obtain ⟨z', U3, a1, a2, a3, a4, _⟩ := qk (cx := C0) (t := 38) (u := 38) (ts := []) (p := (30, 1, 8)) (y := .int .u64 (n : Int)) nG rfl EL rfl uf (Nat.le_trans q2.next hU.next) (by
    rw [ek]; exact fits8p (by have := ye ns es cs i; omega))
   have hTU : Sub T U3 := ⟨fun id bY => (a3.h id bY).trans ((q2.trans hU).h id bY), Nat.le_trans (q2.trans hU).next a3.next⟩
   have jq : cI (jb ns es cs (i + 1)) = cI (jb ns es cs i) ++ [.int .u64 (n : Int)] := by
    rw [wZ]; simp [cI]
   simp [t0, t1, t6, t7, g, gU, aj wX, aj ltU, u1, u2, uk, w1, w2, wk, b9, hie, iu, hln, aR, e3, a1, uf.sl.cells];exact ⟨ns.length - (i + 1), by omega, i + 1, z', hTU, by rw [jq]; exact a2, by simp [t0], by simp [t1], by simp, by simp [iY, -Int.natCast_add], b9, rfl, by simp [hn]⟩
 ·obtain rfl : i = ns.length := by omega
  simp [t0, t1, t6, t7, g, aj wX, u1, u2, uk];exact ⟨hT.trans q2, p2.sl⟩
def q24H (S : AS) (y : Nat) (s : List Nat) (es : List kN) (k : Nat) (F' : Fr) (S' : AS) : Prop :=
 ∃ i : Nat, Sub S S' ∧ sl F' 0 = .ptr y 0 0 2 ∧ sl F' 1 = .str s ∧ sl F' 5 = .int .i64 ((((es.take i).filter fun e => (fl e.ar s).isSome).length : Nat) : Int) ∧ sl F' 6 = .int .i64 (i : Int) ∧ i ≤ es.length ∧ k = es.length - i ∧ F'.n = 34
set_option maxHeartbeats 2000000 in
theorem ref24 {S : AS} {y : Nat} {ns : List Nat} {es : List kN} {s : List Nat} (h : gf S y ns es) :
  ai C0 24 [.ptr y 0 0 2, .str s] S fun r T => Sub S T ∧ r = .int .i64 (((es.filter fun e => (fl e.ar s).isSome).length : Nat) : Int) := by
 have hle := h.le;have hlen := h.len;refine cU (dm _) (dn _ rfl) p_fn24 rfl p_ok24 (by simp) fun F hn s0 s1 => ?_
 rw [p_nt24] at hn;simp [s0, s1];refine aB (q24H S y s es) es.length ⟨0, Sub.refl S, by simp [s0], by simp [s1], by simp, by simp, Nat.zero_le _, rfl, by simp [hn]⟩ ?_
 clear s0 s1 hn
 rintro k F' S' df ⟨i, q2, t0, t1, t5, t6, hi, hk, hn⟩
 clear df;have h1 := h.sub q2;obtain ⟨vn, ve, g, qV, tD⟩ := h1.row;have wX := h1.lt;have w1 := tD.sl;have w2 := tD.aO ey (by omega)
 have wk := aW tD
 by_cases b9 : i < es.length
 ·obtain ⟨e, xu⟩ : ∃ e, es[i]? = some e := ⟨_, List.getElem?_eq_getElem b9⟩
  have hein := List.mem_of_getElem? xu;have iu := cz (cx := C0) (e := 33) tD ey (by omega) xu p_ag33 p_sz33
  obtain ⟨r, U, ⟨rfl, hU⟩, e3⟩ := (ref54 (key := e.key) (n := s) (h1.kK e hein)).ex;have iY := aN (i := i) (by omega)
  have mR : ((es.take i).filter fun e => (fl e.ar s).isSome).length ≤ i := Nat.le_trans (List.length_filter_le _ _) (by rw [List.length_take]; omega)
  have wZ : ((es.take (i + 1)).filter fun e => (fl e.ar s).isSome).length = ((es.take i).filter fun e => (fl e.ar s).isSome).length + (if (fl e.ar s).isSome then 1 else 0) := by
   obtain ⟨hi2, he⟩ := List.getElem?_eq_some_iff.1 xu;rw [List.take_succ_eq_append_getElem hi2, List.filter_append, List.length_append, he]
   cases hq : (fl e.ar s).isSome <;> simp [hq]
  generalize hcn : ((es.take i).filter fun e => (fl e.ar s).isSome).length = cn at t5 mR wZ
  have hwc := aN (i := cn) (by omega)
  have hZ : Sub S' ⟨(U.h.set U.next (.row [.int .i64 0, .int .i64 0, .str [], .bool false] 0 0 false 50)).set U.next (.row (aS ((fl e.ar s).getD zeroV)) 0 0 false 50), U.next + 1⟩ := hU.trans jf;simp only [fY] at iu;simp only [aS] at e3 hZ
  cases hq : (fl e.ar s).isSome with
  | false =>
   rw [hq] at e3 wZ;simp [t0, t1, t5, t6, g, aj wX, w1, w2, wk, b9, iu, aR, e3];exact ⟨es.length - (i + 1), by omega, i + 1, q2.trans hZ, by simp [t0], by simp [t1], by rw [wZ]; simp [t5], by simp [iY, -Int.natCast_add], b9, rfl, by simp [hn]⟩
  | true =>
   rw [hq] at e3 wZ;simp [t0, t1, t5, t6, g, aj wX, w1, w2, wk, b9, iu, aR, e3];exact ⟨es.length - (i + 1), by omega, i + 1, q2.trans hZ, by simp [t0], by simp [t1], by rw [wZ]; simp [hwc, -Int.natCast_add], by simp [iY, -Int.natCast_add], b9, rfl, by simp [hn]⟩
 ·obtain rfl : i = es.length := by omega
  rw [List.take_length] at t5;simp [t0, t1, t5, t6, g, aj wX, w1, w2, wk, q2]
theorem p_fn20 : C0.fns.get 20 = some Tryz.f20 := by kernel_rfl
theorem p_ok20 : codeOk C0 Tryz.f20.ntmps (Tryz.f20.body.getD .skip) = true := by kernel_rfl
theorem p_nt20 : Tryz.f20.ntmps = 67 := by kernel_rfl
theorem p_un22 : aZ C0 22 = some (.slice 33) := by kernel_rfl
theorem fits40p {n : Nat} (h : n ≤ 2097152) : fits n 40 = true := by
 unfold fits;simp only [cg, Bool.and_eq_true, decide_eq_true_eq];have : n.mul 40 = n * 40 := rfl
 constructor <;> omega
theorem numL_cut (l : List Nat) (a b : Nat) : ((cI l).drop (a * 1)).take ((b - a) * 1) = cI ((l.drop a).take (b - a)) := by
 simp [cI, List.map_drop, List.map_take]
theorem evL_cut (l : List kN) (a b : Nat) : ((l.flatMap fY).drop (a * 2)).take ((b - a) * 2) = ((l.drop a).take (b - a)).flatMap fY := by
 rw [mz ey, mw ey]
theorem uO {S : AS} {lo : Nat} {v w : AV} {cs ds : List Nat} (ho : Own S lo v 1 30 (cI cs)) (hl : lo ≤ S.next) (hx : Sl S w 1 (cI ds)) (hf : cs.length + ds.length ≤ 2097152) :
  ∃ v' T, aJ C0 S .append [38, 38] [v, w] = .val v' T ∧ Own T lo v' 1 30 (cI (cs ++ ds)) ∧ kk lo S T ∧ (∀ id, id < S.next → id + 1 ≠ cJ v → T.h.get id = S.h.get id) ∧ (cJ v' = cJ v ∨ S.next < cJ v') := by
 have h1 := ho.sl.sm;have h2 := hx.sm;rw [ek] at h1 h2;obtain ⟨v', T, r1, r2, r3, r4, _, _, r7⟩ := mI (cx := C0) (t := 38) (u := 38) (ts := []) (p := (30, 1, 8)) nG EL rfl ho hl hx (fits8p (by omega))
 exact ⟨v', T, r1, by simpa [cI] using r2, r3, r4, r7⟩
theorem wI {S : AS} {lo : Nat} {v w : AV} {cs ds : List kN} (ho : Own S lo v 2 33 (cs.flatMap fY)) (hl : lo ≤ S.next) (hx : Sl S w 2 (ds.flatMap fY)) (hf : cs.length + ds.length ≤ 2097152) :
  ∃ v' T, aJ C0 S .append [22, 22] [v, w] = .val v' T ∧ Own T lo v' 2 33 ((cs ++ ds).flatMap fY) ∧ kk lo S T ∧ (∀ id, id < S.next → id + 1 ≠ cJ v → T.h.get id = S.h.get id) ∧ (cJ v' = cJ v ∨ S.next < cJ v') := by
 have h1 := ho.sl.aO ey (by omega)
 have h2 := hx.aO ey (by omega)
 obtain ⟨v', T, r1, r2, r3, r4, _, _, r7⟩ := mI (cx := C0) (t := 22) (u := 22) (ts := []) (p := (33, 2, 40)) rV p_un22 rfl ho hl hx (fits40p (by omega))
 exact ⟨v', T, r1, by simpa using r2, r3, r4, r7⟩
theorem uK {S : AS} {v : AV} {l : List Nat} {a b : Nat} (h : Sl S v 1 (cI l)) (h1 : a ≤ b) (h2 : b ≤ l.length) : Sl S (oU v a b) 1 (cI ((l.drop a).take (b - a))) := by
 have hl := h.sm;rw [ek] at hl;have := h.cut h1 (by omega)
 rwa [numL_cut] at this
theorem AI {S : AS} {v : AV} {l : List kN} {a b : Nat} (h : Sl S v 2 (l.flatMap fY)) (h1 : a ≤ b) (h2 : b ≤ l.length) : Sl S (oU v a b) 2 (((l.drop a).take (b - a)).flatMap fY) := by
 have hl := h.aO ey (by omega)
 have := h.cut h1 (by omega)
 rwa [evL_cut] at this
theorem sl_to {cx : Cx} {F : Fr} {t : TypeId} {p : Nat × Nat × Nat} {v : AV} {x i n : Nat} (h : kP cx t = some p) (hv : isSl p.2.1 v = true) (hx : sl F x = .int .i64 (i : Int)) (hi : i ≤ n) (hn : sLen v = n) : cE cx F t v none (some (.tmp x)) none = some (oU v 0 i) :=
 dh h hv cy (by rw [az, ay, hx, aM]) (Nat.zero_le _) (by omega)
theorem ur {cx : Cx} {F : Fr} {t : TypeId} {p : Nat × Nat × Nat} {v : AV} {x i n : Nat} (h : kP cx t = some p) (hv : isSl p.2.1 v = true) (hx : sl F x = .int .i64 (i : Int)) (hi : i ≤ n) (hn : sLen v = n) : cE cx F t v (some (.tmp x)) none none = some (oU v i n) :=
 dh h hv (by rw [az, ay, hx, aM]) (by rw [cy, hn]) hi (by omega)
theorem gf.lay {S T : AS} {y : Nat} {ns : List Nat} {es : List kN} {DN : List Nat} {sL : List kN} {v w : AV} (h : gf S y ns es) (hk : ∀ id, id < S.next → id ≠ y → T.h.get id = S.h.get id) (hn : S.next ≤ T.next) (hv : Sl T v 1 (cI DN)) (hw : Sl T w 2 (sL.flatMap fY))
  (h1 : cJ v = 0 ∨ S.next < cJ v) (h2 : cJ w = 0 ∨ S.next < cJ w)
  (ha : ∀ e, e ∈ sL → eF S e.u e.ar ∧ Names e.ar ∧ cJ e.u ≠ y + 1) (hl : DN.length = sL.length) (hr : DN.Pairwise (· < ·)) (hc : DN.length ≤ 1048576) :
  gf ⟨T.h.set y (.row [v, w] 0 0 false 60), T.next⟩ y DN sL := by
 have aL := h.lt;refine ⟨⟨v, w, aa _ _ _, hv.beside (by rcases h1 with e | e <;> omega) (Nat.le_refl _), hw.beside (by rcases h2 with e | e <;> omega) (Nat.le_refl _)⟩, Nat.lt_of_lt_of_le aL hn, fun e he => ?_, fun e he => (ha e he).2.1, hl, hr, hc⟩
 obtain ⟨a, b, c⟩ := ha e he;have hold := a.sl.old;exact ⟨a.sl.bR (fun id bY => (ae _ _ (by omega)).trans (hk id (by omega) (by omega))) hn, a.le⟩
theorem BV {l : List Nat} {n i : Nat} (hl : l.Pairwise (· < ·)) (hi : i = place l n) (lI : ¬ l[i]? = some n) : (l.take i ++ n :: l.drop i).Pairwise (· < ·) := by
 have h1 : ∀ m, m ∈ l.take i → m < n := by
  intro m hm;subst hi;unfold place at hm;rw [List.mem_take_iff_getElem] at hm;obtain ⟨j, hj, rfl⟩ := hm;have rI : j < (l.takeWhile fun m => decide (m < n)).length := by omega
  have hp := List.takeWhile_prefix (fun m => decide (m < n)) (l := l)
  have he := hp.getElem rI;have := List.all_eq_true.1 (List.all_takeWhile (p := fun m => decide (m < n)) (l := l)) _ (List.getElem_mem rI)
  rw [he] at this;simpa using this
 have h2 : ∀ m, m ∈ l.drop i → n < m := by
  have hd : l.drop i = l.dropWhile fun m => decide (m < n) := by
   subst hi;unfold place;have := List.takeWhile_append_dropWhile (p := fun m => decide (m < n)) (l := l)
   conv => lhs; arg 2; rw [← this]
   rw [List.drop_left]
  intro m hm;have hs : (l.drop i).Pairwise (· < ·) := hl.sublist (List.drop_sublist i l)
  cases hc : l.drop i with
  | nil => rw [hc] at hm; cases hm
  | cons a t =>
   have h0 : l[i]? = some a := by
    have := List.getElem?_drop (xs := l) (i := i) (j := 0);rw [hc] at this;simpa using this.symm
   have m9 : ¬ a < n := by
    have bO : (l.dropWhile fun m => decide (m < n)) ≠ [] := by rw [← hd, hc]; simp
    have := List.head_dropWhile_not (fun m => decide (m < n)) bO
    simp only [← hd, hc, List.head_cons] at this;simpa using this
   have hna : a ≠ n := fun e => lI (by rw [h0, e])
   rw [hc] at hm hs;rcases List.mem_cons.1 hm with rfl | hm
   ·omega
   ·have := (List.pairwise_cons.1 hs).1 m hm
    omega
 rw [List.pairwise_append];refine ⟨hl.sublist (List.take_sublist i l), List.pairwise_cons.2 ⟨h2, hl.sublist (List.drop_sublist i l)⟩, fun a ha b hb => ?_⟩
 rcases List.mem_cons.1 hb with rfl | hb
 ·exact h1 a ha
 ·exact Nat.lt_trans (h1 a ha) (h2 b hb)
def NewRow (S T : AS) (y : Nat) : Prop := ∃ vn ve, T.h.get y = some (.row [vn, ve] 0 0 false 60) ∧ (cJ vn = 0 ∨ S.next < cJ vn) ∧ (cJ ve = 0 ∨ S.next < cJ ve)
set_option maxRecDepth 20000 in
set_option maxHeartbeats 4000000 in
theorem ref20 {S : AS} {y n : Nat} {ns : List Nat} {es : List kN} {key : List Nat} {u : AV} {l : List dD} (h : gf S y ns es) (hu : eF S u l) (hnm : Names l) (hy : ∀ e, e ∈ es → cJ e.u ≠ y + 1) (huy : cJ u ≠ y + 1) (fi : ns.length < 1048576) :
  ai C0 20 [.ptr y 0 0 2, .int .u64 (n : Int), .agg [.str key, u]] S fun r T =>
   (ec key l = false ∧ r = .int .i64 30 ∧ Sub S T) ∨ (ec key l = true ∧ n ∈ ns ∧ r = .int .i64 9 ∧ Sub S T) ∨
   (ec key l = true ∧ ¬ ns[place ns n]? = some n ∧ r = .int .i64 0 ∧ eS (fun id => id = y) S T ∧ NewRow S T y ∧ gf T y (ns.take (place ns n) ++ n :: ns.drop (place ns n)) (es.take (place ns n) ++ ⟨key, u, l⟩ :: es.drop (place ns n))) := by
 obtain ⟨S1, hS⟩ : ∃ S1 : AS, S1 = ⟨S.h.set S.next (.row [.str key, u] 0 0 false 33), S.next + 1⟩ := ⟨_, rfl⟩;have fp : Sub S S1 := by rw [hS]; exact cS
 have hSn : S1.next = S.next + 1 := by rw [hS]
 have g1 : S1.h.get S.next = some (.row [.str key, u] 0 0 false 33) := by rw [hS]; exact aa _ _ _
 have cD : S.next < S1.next := by omega
 have uk := aW hu.sl;have uc := hu.sl.cells;obtain ⟨r, U, ⟨rfl, hU⟩, e1⟩ := (ref48 (key := key) (hu.sub fp) hnm).ex;obtain ⟨r, U', ⟨rfl, rfl⟩, e2⟩ := (at49 (n := n) (h.sub (fp.trans hU))).ex;refine ka (dm _) (dn _ rfl) p_fn20 rfl p_ok20 (by simp) fun F hn s0 s1 s2 => ?_
 rw [p_nt20] at hn
 cases hm : ec key l with
 | false =>
  rw [hm] at e1;simp [s0, s1, s2, uc, uk, ← hS, g1, aj cD, aR, e1, fp.trans hU]
 | true =>
 rw [hm] at e1
 by_cases lI : ns[place ns n]? = some n
 ·have := List.mem_of_getElem? lI
  rw [decide_eq_true lI] at e2;simp [s0, s1, s2, uc, uk, ← hS, g1, aj cD, aR, e1, e2, this, fp.trans hU]
 rw [decide_eq_false lI] at e2;have hle := place_le ns n;have hlen := h.len;have hri := BV h.zQ rfl lI;generalize DP : place ns n = i at *;have hSU := fp.trans hU;have hU' := h.sub hSU;obtain ⟨vn, ve, gU, qV, tD⟩ := hU'.row;have u1 := qV.sl;have u2 := qV.sm;rw [ek] at u2;have uo := aW qV;have w1 := tD.sl;have w2 := tD.aO ey (by omega)
 have wo := aW tD;have ir : y < U'.next := hU'.lt;have gb : U'.h.get S.next = some (.row [.str key, u] 0 0 false 33) := (hU.h _ cD).trans g1;have hbU : S.next < U'.next := Nat.lt_of_lt_of_le cD hU.next;obtain ⟨v1, T1, a1, o1, q1, k1, b1⟩ := uO (lo := U'.next) (cs := []) (Own.nil (S := U')) (Nat.le_refl _) (uK qV (Nat.zero_le i) hle) (by simp; omega)
 simp only [List.nil_append, List.drop_zero, Nat.sub_zero] at o1;have hnx1 := q1.next;obtain ⟨v2, T2, a2, o2, q2, k2, _, _, b2⟩ := qk (cx := C0) (t := 38) (u := 38) (ts := []) (p := (30, 1, 8)) (y := .int .u64 (n : Int)) nG rfl EL rfl o1 hnx1 (by rw [ek]; exact fits8p (by simp; omega))
 have hnx2 := q2.next;have o2' : Own T2 U'.next v2 1 30 (cI (ns.take i ++ [n])) := by simpa [cI] using o2
 obtain ⟨v3, T3, a3, o3, q3, k3, b3⟩ := wI (lo := T2.next) (cs := []) (Own.nil (S := T2)) (Nat.le_refl _) (AI (a := 0) (b := i) (tD.stay (q1.trans q2) tD.old) (Nat.zero_le i) (by omega)) (by simp; omega)
 simp only [List.nil_append, List.drop_zero, Nat.sub_zero] at o3;have hnx3 := q3.next;obtain ⟨T3', hT3⟩ : ∃ T3' : AS, T3' = ⟨T3.h.set T3.next (.row [.str key, u] 0 0 false 33), T3.next + 1⟩ := ⟨_, rfl⟩;have s3' : Sub T3 T3' := by rw [hT3]; exact cS
 have n3' : T3'.next = T3.next + 1 := by rw [hT3]
 have jH : Sl T3' (.slice T3.next 0 0 1 2 2 (some 1)) 2 ([(⟨key, u, l⟩ : kN)].flatMap fY) := by
  refine ⟨by simp [isSl, jr], ?_, by simp [fY, sLen], by simp [cJ]; omega⟩
  simp [nC, fV, hT3, aa, dQ, fY]
 obtain ⟨v4, T4, a4, o4, q4, k4, b4⟩ := wI (o3.sub s3') (by omega) jH (by simp; omega)
 have hnx4 := q4.next;have pe := o2.og;have hb3 := o3.og;have hb4 := o4.og;have o2T3 : Own T3 U'.next v2 1 30 (cI (ns.take i ++ [n])) := o2'.bm (fun id _ h2 => k3 id h2 (by simp [cJ])) hnx3
 have o2T4 : Own T4 U'.next v2 1 30 (cI (ns.take i ++ [n])) := o2'.bm (fun id _ h2 => by
  rw [k4 id (by omega) (by rcases hb3 with e | e <;> omega), s3'.h id (by omega)]
  exact k3 id h2 (by simp [cJ])) (by omega)
 have hstay4 : kk U'.next U' T4 := (((q1.trans q2).trans (q3.mono (Nat.le_trans hnx1 hnx2))).trans (s3'.stay (by omega))).trans (q4.mono (by omega))
 have gT1 := (q1.h _ ir).trans gU;have gT2 := (q2.h _ ir).trans gT1;have gT4 := (hstay4.h _ ir).trans gU;have gb3 : T3.h.get S.next = some (.row [.str key, u] 0 0 false 33) := by rw [q3.h _ (by omega), q2.h _ hbU, q1.h _ hbU]; exact gb
 have hn1T4 := qV.stay hstay4 qV.old;obtain ⟨v5, T5, a5, o5, q5, k5, b5⟩ := uO o2T4 (by omega) (uK hn1T4 hle (Nat.le_refl _)) (by simp; omega)
 have hnx5 := q5.next;have pT := hstay4.trans q5;have he1T5 := tD.stay pT tD.old;have o4T5 : Own T5 T2.next v4 2 33 ((es.take i ++ [(⟨key, u, l⟩ : kN)]).flatMap fY) := o4.bm (fun id h1 h2 => k5 id h2 (by rcases pe with e | e <;> omega)) hnx5
 obtain ⟨v6, T6, a6, o6, q6, k6, b6⟩ := wI o4T5 (by omega) (AI (a := i) (b := es.length) he1T5 (by omega) (Nat.le_refl _)) (by simp; omega)
 have hnx6 := q6.next;have gT5 := (pT.h _ ir).trans gU;have pS := pT.trans (q6.mono (by omega))
 have gT6 := (pS.h _ ir).trans gU;have hb5 := o5.og;have hb6 := o6.og;have s5 : Sl T6 v5 1 (cI (ns.take i ++ n :: ns.drop i)) := by
  have := o5.sl.bR (T := T6) (fun id bY => k6 id (by omega) (by rcases b5 with e | e <;> rcases hb4 with e' | e' <;> rcases pe with e2 | e2 <;> omega)) hnx6
  rw [show (ns.drop i).take (ns.length - i) = ns.drop i from List.take_of_length_le (by simp), List.append_assoc, List.singleton_append] at this
  exact this
 have s6 : Sl T6 v6 2 ((es.take i ++ (⟨key, u, l⟩ : kN) :: es.drop i).flatMap fY) := by
  have := o6.sl;rw [show (es.drop i).take (es.length - i) = es.drop i from List.take_of_length_le (by simp), List.append_assoc, List.singleton_append] at this
  exact this
 have hfr2 : ∀ (F : Fr) (id : Nat), sl F 30 = .int .u64 (n : Int) → aI C0 F id (.buildSlice 38 1 #[(0, .tmp 30)]) = some (.slice id 0 0 1 1 1 (some 1), .row [.int .u64 (n : Int)] 0 0 false 30) := fun F id h => pZ nG rfl (by rw [ay, h]; rfl)
 have hfr4 : ∀ (F : Fr) (id : Nat), sl F 42 = .agg [.str key, u] → aI C0 F id (.buildSlice 22 1 #[(0, .tmp 42)]) = some (.slice id 0 0 1 2 2 (some 1), .row [.str key, u] 0 0 false 33) := fun F id h => by
  have := vX (cx := C0) (F := F) (t := 22) (p := (33, 2, 40)) (id := id) (n := 1) (a := #[(0, .tmp 42)]) [[.str key, u]] rV rfl (by simp [ay, h, cellsOf]) (by simp) (by decide)
  simpa using this
 have c1 := aW o1.sl;have c2 := aW o2.sl;have d1 := o1.sl.cells;have f27 := fun (F : Fr) (h : sl F 26 = .int .i64 (i : Int)) => sl_to (cx := C0) (F := F) (t := 38) (x := 26) (i := i) (v := vn) nG u1 h hle u2
 have f39 := fun (F : Fr) (h : sl F 38 = .int .i64 (i : Int)) => sl_to (cx := C0) (F := F) (t := 22) (x := 38) (i := i) (v := ve) rV w1 h (by omega : i ≤ es.length) w2
 have f53 := fun (F : Fr) (h : sl F 52 = .int .i64 (i : Int)) => ur (cx := C0) (F := F) (t := 38) (x := 52) (i := i) (v := vn) nG u1 h hle u2
 have f61 := fun (F : Fr) (h : sl F 60 = .int .i64 (i : Int)) => ur (cx := C0) (F := F) (t := 22) (x := 60) (i := i) (v := ve) rV w1 h (by omega : i ≤ es.length) w2
 have d5 := o5.sl.cells;have d6 := o6.sl.cells;have x1 : y ≠ T1.next := by omega
 have hbT3 : S.next < T3.next := by omega
 have hyT2 : y < T2.next := by omega
 have hyT4 : y < T4.next := by omega
 have hyT5 : y < T5.next := by omega
 have hyT6 : y < T6.next := by omega
 simp [s0, s1, s2, uc, uk, ← hS, g1, aj cD, aR, e1, e2, gU, aj ir, f27, a1, hfr2, a2, gT2, aj hyT2, f39, a3, gb3, aj hbT3, hfr4, ← hT3, a4];refine aA [.p, .p, .p, .p, .p, .p, .r 0 0, .p, .p, .e [], .p, .p, .p, .p, .r 1 0, .p, .p, .e [], .p, .p, .e [], .p, .p, .e []] (n := 67) (by kernel_rfl) (by simp [hn]) ?_
 simp [s0, s1, s2, gT4, gT5, gT6, aj hyT4, aj hyT5, aj hyT6, f53, f61, a5, a6, d5, d6, uo, wo];have hnn : S.next ≤ U'.next := hSU.next;refine ⟨lI, ⟨fun id h1 h2 => ?_, by show S.next ≤ T6.next; omega⟩, ⟨v5, v6, aa _ _ _, by rcases hb5 with e | e <;> omega, by rcases hb6 with e | e <;> omega⟩, h.lay (T := ⟨T6.h.set y (.row [v5, ve] 0 0 false 60), T6.next⟩) (fun id h1 h2 => ?_) (by show S.next ≤ T6.next; omega) (s5.beside (by rcases hb5 with e | e <;> omega) (Nat.le_refl _)) (s6.beside (by rcases hb6 with e | e <;> omega) (Nat.le_refl _))
  (by rcases hb5 with e | e <;> omega) (by rcases hb6 with e | e <;> omega) ?_ (by simp; omega) hri (by simp; omega)⟩
 ·exact ((ae _ _ h2).trans (ae _ _ h2)).trans ((pS.h id (by omega)).trans (hSU.h id h1))
 ·exact (ae _ _ h2).trans ((pS.h id (by omega)).trans (hSU.h id h1))
 ·intro e he
  rcases List.mem_append.1 he with he | he
  ·have he := List.mem_of_mem_take he
   exact ⟨h.kK e he, h.nm e he, hy e he⟩
  ·rcases List.mem_cons.1 he with rfl | he
   ·exact ⟨hu, hnm, huy⟩
   ·have he := List.mem_of_mem_drop he
    exact ⟨h.kK e he, h.nm e he, hy e he⟩
theorem p_fn21 : C0.fns.get 21 = some Tryz.f21 := by kernel_rfl
theorem p_ok21 : codeOk C0 Tryz.f21.ntmps (Tryz.f21.body.getD .skip) = true := by kernel_rfl
theorem p_nt21 : Tryz.f21.ntmps = 57 := by kernel_rfl
set_option maxRecDepth 20000 in
set_option maxHeartbeats 4000000 in
theorem ref21 {S : AS} {y n : Nat} {ns : List Nat} {es : List kN} (h : gf S y ns es) (hy : ∀ e, e ∈ es → cJ e.u ≠ y + 1) :
  ai C0 21 [.ptr y 0 0 2, .int .u64 (n : Int)] S fun r T =>
   (¬ ns[place ns n]? = some n ∧ r = .int .i64 6 ∧ T = S) ∨
   (ns[place ns n]? = some n ∧ r = .int .i64 0 ∧ eS (fun id => id = y) S T ∧ NewRow S T y ∧ gf T y (ns.take (place ns n) ++ ns.drop (place ns n + 1)) (es.take (place ns n) ++ es.drop (place ns n + 1))) := by
 obtain ⟨r, U', ⟨rfl, rfl⟩, e2⟩ := (at49 (n := n) h).ex;refine cU (dm _) (dn _ rfl) p_fn21 rfl p_ok21 (by simp) fun F hn s0 s1 => ?_
 rw [p_nt21] at hn
 by_cases lI : ns[place ns n]? = some n
 rotate_left
 ·rw [decide_eq_false lI] at e2
  simp [s0, s1, aR, e2, lI]
 rw [decide_eq_true lI] at e2;have hlen := h.len;have hri := h.zQ;generalize DP : place ns n = i at *;have aL : i < ns.length := (List.getElem?_eq_some_iff.1 lI).1;have re := h.le;obtain ⟨vn, ve, gU, qV, tD⟩ := h.row;have u1 := qV.sl;have u2 := qV.sm;rw [ek] at u2;have uo := aW qV;have w1 := tD.sl;have w2 := tD.aO ey (by omega)
 have wo := aW tD;have ir : y < U'.next := h.lt;obtain ⟨v1, T1, a1, o1, q1, k1, b1⟩ := uO (lo := U'.next) (cs := []) (Own.nil (S := U')) (Nat.le_refl _) (uK qV (Nat.zero_le i) (by omega)) (by simp; omega)
 simp only [List.nil_append, List.drop_zero, Nat.sub_zero] at o1;have hnx1 := q1.next;obtain ⟨v3, T3, a3, o3, q3, k3, b3⟩ := wI (lo := T1.next) (cs := []) (Own.nil (S := T1)) (Nat.le_refl _) (AI (a := 0) (b := i) (tD.stay q1 tD.old) (Nat.zero_le i) (by omega)) (by simp; omega)
 simp only [List.nil_append, List.drop_zero, Nat.sub_zero] at o3;have hnx3 := q3.next;have lJ := o1.og;have hb3 := o3.og;have o1T3 : Own T3 U'.next v1 1 30 (cI (ns.take i)) := o1.bm (fun id _ h2 => k3 id h2 (by simp [cJ])) hnx3
 have hstay3 : kk U'.next U' T3 := q1.trans (q3.mono hnx1);have gT1 := (q1.h _ ir).trans gU;have gT3 := (hstay3.h _ ir).trans gU;obtain ⟨v5, T5, a5, o5, q5, k5, b5⟩ := uO o1T3 (by omega) (uK (a := i + 1) (qV.stay hstay3 qV.old) aL (Nat.le_refl _)) (by simp; omega)
 have hnx5 := q5.next;have pT := hstay3.trans q5;have o3T5 : Own T5 T1.next v3 2 33 ((es.take i).flatMap fY) := o3.bm (fun id h1 h2 => k5 id h2 (by rcases lJ with e | e <;> omega)) hnx5
 obtain ⟨v6, T6, a6, o6, q6, k6, b6⟩ := wI o3T5 (by omega) (AI (a := i + 1) (b := es.length) (tD.stay pT tD.old) (by omega) (Nat.le_refl _)) (by simp; omega)
 have hnx6 := q6.next;have gT5 := (pT.h _ ir).trans gU;have pS := pT.trans (q6.mono (by omega))
 have gT6 := (pS.h _ ir).trans gU;have hb5 := o5.og;have hb6 := o6.og;have s5 : Sl T6 v5 1 (cI (ns.take i ++ ns.drop (i + 1))) := by
  have := o5.sl.bR (T := T6) (fun id bY => k6 id (by omega) (by rcases b5 with e | e <;> rcases hb3 with e' | e' <;> rcases lJ with e2 | e2 <;> omega)) hnx6
  rw [show (ns.drop (i + 1)).take (ns.length - (i + 1)) = ns.drop (i + 1) from List.take_of_length_le (by simp)] at this
  exact this
 have s6 : Sl T6 v6 2 ((es.take i ++ es.drop (i + 1)).flatMap fY) := by
  have := o6.sl;rw [show (es.drop (i + 1)).take (es.length - (i + 1)) = es.drop (i + 1) from List.take_of_length_le (by simp)] at this
  exact this
 have c1 := aW o1.sl;have f23 := fun (F : Fr) (h : sl F 22 = .int .i64 (i : Int)) => sl_to (cx := C0) (F := F) (t := 38) (x := 22) (i := i) (v := vn) nG u1 h (by omega : i ≤ ns.length) u2
 have f31 := fun (F : Fr) (h : sl F 30 = .int .i64 (i : Int)) => sl_to (cx := C0) (F := F) (t := 22) (x := 30) (i := i) (v := ve) rV w1 h (by omega : i ≤ es.length) w2
 have f42 := fun (F : Fr) (h : sl F 41 = .int .i64 ((i + 1 : Nat) : Int)) => ur (cx := C0) (F := F) (t := 38) (x := 41) (i := i + 1) (v := vn) nG u1 h aL u2
 have f51 := fun (F : Fr) (h : sl F 50 = .int .i64 ((i + 1 : Nat) : Int)) => ur (cx := C0) (F := F) (t := 22) (x := 50) (i := i + 1) (v := ve) rV w1 h (by omega : i + 1 ≤ es.length) w2
 have iY := aN (i := i) (by omega)
 obtain ⟨m, hm⟩ : ∃ m : Nat, m = i + 1 := ⟨_, rfl⟩;rw [← hm] at f42 f51 iY a5 a6;have d5 := o5.sl.cells;have d6 := o6.sl.cells;have hyT1 : y < T1.next := by omega
 have hyT3 : y < T3.next := by omega
 have hyT5 : y < T5.next := by omega
 have hyT6 : y < T6.next := by omega
 simp [s0, s1, aR, e2, gU, aj ir, f23, a1, gT1, aj hyT1, f31, a3];refine aA [.p, .p, .p, .p, .p, .p, .r 0 0, .p, .p, .p, .e [], .p, .p, .p, .p, .r 1 0, .p, .p, .p, .e [], .p, .p, .e [], .p, .p, .e []] (n := 57) (by kernel_rfl) (by simp [hn]) ?_
 simp [s0, s1, gT3, gT5, gT6, aj hyT3, aj hyT5, aj hyT6, iY, f42, f51, a5, a6, d5, d6, uo, wo];refine ⟨lI, ⟨fun id h1 h2 => ?_, by show U'.next ≤ T6.next; omega⟩, ⟨v5, v6, aa _ _ _, by rcases hb5 with e | e <;> omega, by rcases hb6 with e | e <;> omega⟩, h.lay (T := ⟨T6.h.set y (.row [v5, ve] 0 0 false 60), T6.next⟩) (fun id h1 h2 => ?_) (by show U'.next ≤ T6.next; omega) (s5.beside (by rcases hb5 with e | e <;> omega) (Nat.le_refl _)) (s6.beside (by rcases hb6 with e | e <;> omega) (Nat.le_refl _))
  (by rcases hb5 with e | e <;> omega) (by rcases hb6 with e | e <;> omega) ?_ (by simp; omega) ?_ (by simp; omega)⟩
 ·exact ((ae _ _ h2).trans (ae _ _ h2)).trans (pS.h id h1)
 ·exact (ae _ _ h2).trans (pS.h id h1)
 ·intro e he
  rcases List.mem_append.1 he with he | he
  ·have he := List.mem_of_mem_take he
   exact ⟨h.kK e he, h.nm e he, hy e he⟩
  ·have he := List.mem_of_mem_drop he
   exact ⟨h.kK e he, h.nm e he, hy e he⟩
 ·have cr : (ns.take i ++ ns.drop (i + 1)).Sublist ns := by
   conv => rhs; rw [← List.take_append_drop i ns]
   exact List.Sublist.append_left (by rw [← List.drop_drop]; exact List.drop_sublist _ _) _
  exact hri.sublist cr
end Go.Proofs.YtfempihpphbgmaaGreat.idx
