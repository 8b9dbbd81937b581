/-
  The law of what is made, run.
  The chapter's rows run whole.
  Arguments from outside: values, attributes, events.
  What the claims on events share: the program is ready, the examples' answer is known.
-/
import Derived.Test.YtpglcebeldgeeaaGreatDoorPartD
import Derived.Test.YtpglcebeldgeeaaGreatDoorPartA
import Derived.Test.YtpglcebeldgeeaaGreatDoorAmFast
import Derived.Test.YtpglcebeldgeeaaGreatDoorAmBool
import Derived.Test.YtpglcebeldgeeaaGreatDoorAmArgs
import Derived.Test.YtpglcebeldgeeaaGreatDoorAmHanded
import Derived.Test.YtpglcebeldgeeaaGreatDoorAmPrim
import Derived.Test.YtpglcebeldgeeaaGreatDoorAmTop
namespace Go.Proofs.YtpglcebeldgeeaaGreatDoor.val
open Go Go.Am Go.Proofs.YtpglcebeldgeeaaGreatDoor.laid
set_option linter.unusedVariables false
set_option linter.unusedSimpArgs false

theorem AttsAt.nil {S : AS} : AttsAt S .nils [] := ⟨Sl.nil, by simp, fun a h => by cases h⟩
/-- Both makers tell the same. -/
theorem make_one (key : List Nat) (l : List Att) : ∃ (k : List Nat) (m : List Att) (c : Int), (∀ S r T, MakeR S key l r T → ∃ v, r = .tuple [.agg [.str k, v], .int .i64 c] ∧ Gw T v 5 34 (m.flatMap encA) ∧ (bnd v = 0 ∨ S.next < bnd v) ∧ AttsAt T v m) ∧
    (∀ r T, MakeRF key l r T → ∃ v, r = .tuple [.agg [.str k, v], .int .i64 c] ∧ AttsAt T v m) := by
  have ha := make_alike key l
  cases h : makeE key l with
  | none =>
    refine ⟨[], [], 30, fun S r T hr => ?_, fun r T hr => ?_⟩
    · unfold MakeR at hr
      rw [h] at hr
      exact ⟨.nils, hr, Gw.nil, .inl rfl, AttsAt.nil⟩
    · unfold MakeRF at hr
      rw [← ha, h] at hr
      exact ⟨.nils, hr, AttsAt.nil⟩
  | some q =>
    obtain ⟨k, m⟩ := q
    refine ⟨k, m, 0, fun S r T hr => ?_, fun r T hr => ?_⟩
    · unfold MakeR at hr
      rw [h] at hr
      exact hr
    · unfold MakeRF at hr
      rw [← ha, h] at hr
      exact hr
/-- A name is written. -/
theorem gw_putn {S : AS} {v : AV} {cs : List AV} {n i : Nat} (h : Gw S v 5 34 cs) (hc : cs.length = n * 5) (hi : i < n) (x : AV) :
    ∃ T cs', wrV S (addP (pAt v i) 0) [x] = some T ∧ Gw T v 5 34 cs' ∧ cs'.length = n * 5 ∧ KeepB (bnd v) S T := by
  have hl := h.1.len
  rcases h.2 with rfl | ⟨id, g, off, n', lim, cap, rfl, _⟩
  · exfalso
    simp only [sLen, Nat.zero_mul] at hl
    omega
  · simp only [sLen] at hl
    obtain ⟨T, h1, h2, h3, h4⟩ := gw_putw (c := i * 5) (new := [x]) h (by omega) (by omega) (by simp; omega)
    refine ⟨T, _, ?_, h2, by simp; omega, ⟨fun j _ hj => h3 j (fun e => hj (by simp [bnd, e])), by omega⟩⟩
    simpa [pAt, addP, wrV_ptr] using h1
theorem nt3e : Tryz.f3.ntmps = 118 := by kernel_rfl
def mk1H (S0 : AS) (u v1 vx : AV) (name : List Nat) (b7 b12 n : Nat) (k : Nat) (F' : Fr) (S' : AS) : Prop :=
  ∃ (i : Nat) (cs : List AV), KeepB (bnd vx) S0 S' ∧ Gw S' vx 5 34 cs ∧ cs.length = n * 5 ∧ sl F' 1 = u ∧ sl F' 4 = .str name ∧ sl F' 7 = .ptr b7 0 0 2 ∧ sl F' 8 = .ptr (b7 + 1) 0 0 2 ∧ sl F' 11 = v1 ∧ sl F' 12 = .ptr b12 0 0 2 ∧ sl F' 16 = .int .i64 i ∧ F'.n = 118 ∧ i ≤ n ∧ k = n - i
def mk2H (S0 : AS) (u v1 : AV) (name : List Nat) (b7 n : Nat) (k : Nat) (F' : Fr) (S' : AS) : Prop :=
  S' = S0 ∧ ∃ i : Nat, sl F' 1 = u ∧ sl F' 4 = .str name ∧ sl F' 7 = .ptr b7 0 0 2 ∧ sl F' 8 = .ptr (b7 + 1) 0 0 2 ∧ sl F' 11 = v1 ∧ sl F' 17 = .int .i64 i ∧ F'.n = 118 ∧ i ≤ n ∧ k = n - i
section
variable {S : AS}
set_option maxRecDepth 20000 in
set_option maxHeartbeats 4000000 in
theorem law3 {key ek fk name : List Nat} {u eu fu : AV} {l el fl : List Att} (hu : AttsAt S u l) (he : AttsAt S eu el) (hf : AttsAt S fu fl) (hname : ∀ c, c ∈ name → c < 256) (hnl : name.length ≤ 9223372036854775807) :
    CallW C0 3 [.str key, u, .agg [.str ek, eu], .agg [.str fk, fu], .str name] S fun r T => r = .bool true := by
  have u1 := hu.sl.sl
  have u2 := hu.sl.len_flat encA_len (by omega)
  have uk := okW_sl hu.sl
  have hle := hu.le
  have ec := he.sl.cells
  have fc := hf.sl.cells
  have eok := he.sl.ok
  have fok := hf.sl.ok
  -- what comes ahead of the first loop
  have hB : Sub S ⟨(S.h.set S.next (.row [.str ek, eu] 0 0 false 24)).set (S.next + 1) (.row [.str fk, fu] 0 0 false 24), S.next + 2⟩ := sub2
  obtain ⟨B0, hB0⟩ : ∃ B : AS, B = ⟨(S.h.set S.next (.row [.str ek, eu] 0 0 false 24)).set (S.next + 1) (.row [.str fk, fu] 0 0 false 24), S.next + 2⟩ := ⟨_, rfl⟩
  rw [← hB0] at hB
  have nB : B0.next = S.next + 2 := by rw [hB0]
  have b7 : B0.h.get S.next = some (.row [.str ek, eu] 0 0 false 24) := by rw [hB0]; simp
  have b8 : B0.h.get (S.next + 1) = some (.row [.str fk, fu] 0 0 false 24) := by rw [hB0]; exact get_set_same _ _ _
  have huB := hu.sub hB
  obtain ⟨v1, T1, e1, r1, r2, r3, _, _, r6, _⟩ := append_gw (cx := C0) (ts := []) (t := 22) (u := 22) (p := (34, 5, 56)) e_st22 e_un22 rfl (Gw.nil (S := B0)) huB.sl (by rw [u2]; simp [fits, nble, sLen]; omega)
  simp only [List.nil_append] at r1
  have hT1 : Sub B0 T1 := ⟨fun id hid => r2 id hid (by simp [bnd]), r3⟩
  have at1 : AttsAt T1 v1 l := ⟨r1.1, hu.le, hu.ok⟩
  have v1p := r1.1.np
  have v1ok := r1.1.ok
  have v1o := r1.1.old
  obtain ⟨kx, mx, c, one5, one6⟩ := make_one key l
  obtain ⟨r, T2, ⟨m5, hT2⟩, e2⟩ := (make5 (key := key) at1).ex
  obtain ⟨vx, rfl, gx, bx, atx⟩ := one5 _ _ _ m5
  have n1 := hT1.next
  have n2 := hT2.next
  obtain ⟨P2, hP2⟩ : ∃ P : AS, P = ⟨(T2.h.set T2.next (.row [.str [], .nils] 0 0 false 24)).set T2.next (.row [.str kx, vx] 0 0 false 24), T2.next + 1⟩ := ⟨_, rfl⟩
  have hSP2 : Sub T2 P2 := by rw [hP2]; exact sub1s
  have nP2 : P2.next = T2.next + 1 := by rw [hP2]
  have p12 : P2.h.get T2.next = some (.row [.str kx, vx] 0 0 false 24) := by rw [hP2]; exact get_set_same _ _ _
  have hSu : Sub S P2 := ((hB.trans hT1).trans hT2).trans hSP2
  obtain ⟨r, T3, ⟨m6, hT3⟩, e3⟩ := (make6 (key := key) (hu.sub hSu)).ex
  obtain ⟨vy, rfl, aty⟩ := one6 _ _ m6
  have n3 := hT3.next
  obtain ⟨P3, hP3⟩ : ∃ P : AS, P = ⟨(T3.h.set T3.next (.row [.str [], .nils] 0 0 false 24)).set T3.next (.row [.str kx, vy] 0 0 false 24), T3.next + 1⟩ := ⟨_, rfl⟩
  have hSP3 : Sub T3 P3 := by rw [hP3]; exact sub1s
  have nP3 : P3.next = T3.next + 1 := by rw [hP3]
  have p14 : P3.h.get T3.next = some (.row [.str kx, vy] 0 0 false 24) := by rw [hP3]; exact get_set_same _ _ _
  have q12 : P3.h.get T2.next = some (.row [.str kx, vx] 0 0 false 24) := by rw [hSP3.h _ (by omega), hT3.h _ (by omega)]; exact p12
  have h23 : Sub T2 P3 := (hSP2.trans hT3).trans hSP3
  obtain ⟨r, T4, ⟨rfl, hT4⟩, e4⟩ := (same7 (key := kx) (key' := kx) (atx.sub h23) (aty.sub hSP3)).ex
  simp only [decide_true, Bool.and_self] at e4
  have n4 := hT4.next
  have h24 := h23.trans hT4
  have gx4 : Gw T4 vx 5 34 (mx.flatMap encA) := gx.agree (fun id e => h24.h id (by have := gx.1.old; omega)) h24.next
  have xo := gx.1.old
  have xok := gx.1.ok
  have xc := gx.1.cells
  have yc := aty.sl.cells
  have yok := aty.sl.ok
  have x1 := gx.1.sl
  have x2 := gx.1.len_flat encA_len (by omega)
  have hlen : (mx.flatMap encA).length = mx.length * 5 := by have := gx.1.len; rw [x2] at this; exact this
  have w12 : T4.h.get T2.next = some (.row [.str kx, vx] 0 0 false 24) := by rw [hT4.h _ (by omega)]; exact q12
  have hS4 : Sub S T4 := (hB.trans hT1).trans (hT2.trans h24)
  have hB4 : Sub B0 T4 := hT1.trans (hT2.trans h24)
  have w7 : T4.h.get S.next = some (.row [.str ek, eu] 0 0 false 24) := by rw [hB4.h _ (by omega)]; exact b7
  have w8 : T4.h.get (S.next + 1) = some (.row [.str fk, fu] 0 0 false 24) := by rw [hB4.h _ (by omega)]; exact b8
  have h14 : Sub T1 T4 := hT2.trans h24
  have bB0 := hB0.symm
  have bP2 := hP2.symm
  have bP3 := hP3.symm
  have ne1 : T2.next ≠ T3.next := by omega
  refine enterW (pu0 _) (pr0 _ rfl) e_fn3 rfl e_ok3 (by simp) fun F hn hs' => ?_
  rw [nt3e] at hn
  have s0 := hs' 0
  have s1 := hs' 1
  have s2 := hs' 2
  have s3 := hs' 3
  have s4 := hs' 4
  clear hs'
  simp only [List.getElem?_cons_zero, List.getElem?_cons_succ, Option.getD_some] at s0 s1 s2 s3 s4
  simp [s0, s1, s2, s3, s4, ec, fc, eok, fok, bB0, e1, v1p, e2, e3, e4, ex0, bP2, bP3, xc, yc, xok, yok, okW_of xok, okW_of yok, q12, p14, uk, okW_of v1ok]
  refine loopP_of (mk1H T4 u v1 vx name S.next T2.next mx.length) mx.length ⟨0, _, KeepB.refl _ _, gx4, hlen, by simp [s1], by simp [s4], by simp, by simp, by simp, by simp, by simp, by simp [hn], Nat.zero_le _, rfl⟩ ?_
  clear s0 s1 s2 s3 s4 hn e1 e2 e3 e4 bB0 bP2 bP3 hB0 hP2 hP3
  rintro k F' S' hn' ⟨i, cs, hK, hg, hcl, s1, s4, s7, s8, s11, s12, s16, hn, hi, hk⟩
  clear hn'
  have w12' : S'.h.get T2.next = some (.row [.str kx, vx] 0 0 false 24) := by rw [hK.1 _ (by omega) (by omega)]; exact w12
  by_cases hi' : i < mx.length
  · obtain ⟨T, cs', ew, hg', hcl', hk'⟩ := gw_putn hg hcl hi' (.str [120])
    have hpi := isP_pAt (k := i) x1 (by rw [x2]; exact hi')
    have hw := wrap_succ (i := i) (by have := atx.le; omega)
    simp [s12, s16, w12', x1, x2, xok, okW_of xok, hi', fieldP_add hpi, ew, hw]
    exact ⟨mx.length - (i + 1), by omega, i + 1, cs', hK.trans hk', hg', hcl', by simp [s1], by simp [s4], by simp [s7], by simp [s8], by simp [s11], by simp [s12], by simp [hw], by simp [hn], hi', rfl⟩
  · have hSub : ∀ id, id < T1.next → S'.h.get id = T1.h.get id := fun id hid => by rw [hK.1 id (by omega) (by omega)]; exact h14.h id hid
    have nS' := hK.2
    have hS1 : Sub T1 S' := ⟨hSub, by omega⟩
    have hS' : Sub S S' := (hB.trans hT1).trans hS1
    have z7 : S'.h.get S.next = some (.row [.str ek, eu] 0 0 false 24) := by rw [hK.1 _ (by omega) (by omega)]; exact w7
    have z8 : S'.h.get (S.next + 1) = some (.row [.str fk, fu] 0 0 false 24) := by rw [hK.1 _ (by omega) (by omega)]; exact w8
    have nSS : S.next + 2 ≤ S'.next := by omega
    simp [s12, s16, w12', x1, x2, xok, okW_of xok, hi']
    clear hK hg hcl w12 w12' w7 w8 gx4 gx atx hT4 h24 h23 h14 hB4 hS4 q12 p12 p14 hSP3 hSP2 nP3 nP2 n4 n3 n2 hT3 hT2 aty ne1 x1 x2 xc xok xo hlen yc yok m5 m6 one5 one6 bx
    refine loopP_of (mk2H S' u v1 name S.next l.length) l.length ⟨rfl, 0, by simp [s1], by simp [s4], by simp [s7], by simp [s8], by simp [s11], by simp, by simp [hn], Nat.zero_le _, rfl⟩ ?_
    clear s1 s4 s7 s8 s11 s12 s16 hn
    rintro k2 F2 S2 hn' ⟨rfl, p, s1, s4, s7, s8, s11, s17, hn, hp, hk2⟩
    clear hn'
    have at1' := at1.sub hS1
    have hu' := hu.sub hS'
    have y1 := at1.sl.sl
    have y2 := at1.sl.len_flat encA_len (by omega)
    by_cases hp' : p < l.length
    · have hx : l[p]? = some (l[p]'hp') := List.getElem?_eq_getElem _
      have l1 := loadT_el (cx := C0) (e := 34) at1'.sl encA_len (by omega) hx e_ag34 e_sz34
      have l2 := loadT_el (cx := C0) (e := 34) hu'.sl encA_len (by omega) hx e_ag34 e_sz34
      generalize l[p]'hp' = a at hx l1 l2
      have bY : baseL (encA a) = true := by simp [encA, encV, baseL]
      have hw := wrap_succ (i := p) (by omega)
      have hne := neA false a a
      have hne2 := neA true a a
      simp at hne hne2
      simp [s1, s17, u1, u2, hp', hn]
      refine still_ok (n := 118) (by kernel_rfl) (by simp [hn]) ?_
      simp [s1, s11, s17, u1, u2, y1, y2, hp', l1, l2, hne, hne2, hu.sl.ok, v1ok, bY, hw]
      exact ⟨l.length - (p + 1), by omega, rfl, p + 1, by simp [s1], by simp [s4], by simp [s7], by simp [s8], by simp [s11], by simp [hw], by simp [hn], hp', rfl⟩
    · have he2 := he.sub hS'
      obtain ⟨r, G1, ⟨rfl, hG1⟩, e8⟩ := (get8 (key := ek) (n := name) he2).ex
      unfold getV at e8
      obtain ⟨P6, hP6⟩ : ∃ P : AS, P = ⟨(G1.h.set G1.next (.row [.int .i64 0, .int .i64 0, .str [], .bool false] 0 0 false 32)).set G1.next (.row (encV ((getA el name).getD zeroV)) 0 0 false 32), G1.next + 1⟩ := ⟨_, rfl⟩
      have hSP6 : Sub G1 P6 := by rw [hP6]; exact sub1s
      have nP6 : P6.next = G1.next + 1 := by rw [hP6]
      have p6 : P6.h.get G1.next = some (.row (encV ((getA el name).getD zeroV)) 0 0 false 32) := by rw [hP6]; exact get_set_same _ _ _
      have h26 := hG1.trans hSP6
      obtain ⟨r, G2, ⟨rfl, hG2⟩, e9⟩ := (get9 (key := ek) (n := name) (he2.sub h26)).ex
      unfold getV at e9
      obtain ⟨P7, hP7⟩ : ∃ P : AS, P = ⟨(G2.h.set G2.next (.row [.int .i64 0, .int .i64 0, .str [], .bool false] 0 0 false 32)).set G2.next (.row (encV ((getA el name).getD zeroV)) 0 0 false 32), G2.next + 1⟩ := ⟨_, rfl⟩
      have hSP7 : Sub G2 P7 := by rw [hP7]; exact sub1s
      have nP7 : P7.next = G2.next + 1 := by rw [hP7]
      have p7 : P7.h.get G2.next = some (.row (encV ((getA el name).getD zeroV)) 0 0 false 32) := by rw [hP7]; exact get_set_same _ _ _
      have bP6 := hP6.symm
      have bP7 := hP7.symm
      generalize (getA el name).getD zeroV = gw at e8 e9 p6 p7 bP6 bP7
      generalize (getA el name).isSome = gb at e8 e9
      clear hP6 hP7
      have m1 := hG1.next
      have m2 := hG2.next
      have h27 := (h26.trans hG2).trans hSP7
      obtain ⟨r, U1, ⟨rfl, hU1⟩, f1⟩ := (evMay10 (key := ek) (he2.sub h27)).ex
      have k1 := h27.trans hU1
      obtain ⟨r, U2, ⟨rfl, hU2⟩, f2⟩ := (evMay11 (key := ek) (he2.sub k1)).ex
      have k2 := k1.trans hU2
      have hf2 := hf.sub hS'
      obtain ⟨r, U3, ⟨rfl, hU3⟩, f3⟩ := (evSame12 (a := ek) (b := fk) (he2.sub k2) (hf2.sub k2)).ex
      have k3 := k2.trans hU3
      obtain ⟨r, U4, ⟨rfl, hU4⟩, f4⟩ := (same7 (key := ek) (key' := fk) (he2.sub k3) (hf2.sub k3)).ex
      have k4 := k3.trans hU4
      obtain ⟨r, U5, ⟨rfl, hU5⟩, f5⟩ := (name13 (S := U4) name hname).ex
      have f6 := fun (S : AS) Q => name14 name hnl (S := S) (Q := Q)
      have g2 := (hG1.h _ (by omega)).trans z7
      have a7 := (h27.h _ (by omega)).trans z7
      have a70 := (h26.h _ (by omega)).trans z7
      have a71 := (k1.h _ (by omega)).trans z7
      have a72 := (k2.h _ (by omega)).trans z7
      have a82 := (k2.h _ (by omega)).trans z8
      have a73 := (k3.h _ (by omega)).trans z7
      have a83 := (k3.h _ (by omega)).trans z8
      have hU14 := (hU1.trans hU2).trans (hU3.trans hU4)
      have o18 : U4.h.get G1.next = some (.row (encV gw) 0 0 false 32) := by rw [hU14.h _ (by omega), hSP7.h _ (by omega), hG2.h _ (by omega)]; exact p6
      have o20 : U4.h.get G2.next = some (.row (encV gw) 0 0 false 32) := by rw [hU14.h _ (by omega)]; exact p7
      have qq := fun c => (eq23 c gw gw).trans (by rw [decide_eq_true rfl])
      have und4 : und C0 4 = some .bool := by kernel_rfl
      simp only [encV] at e8 e9 bP6 bP7 o18 o20 qq
      simp [s1, s4, s7, s8, s17, u1, u2, hp', z7, e8, ex0, bP6, g2, a70, e9, bP7, eok, okW_of eok, hn]
      refine draws [.r 0 0, .e [], .r 1 0, .e [], .p, .p, .r 0 0, .r 0 0, .e [], .r 1 0, .r 1 0, .e [], .p, .p, .p, .r 0 0, .r 0 0, .p, .p, .p, .p, .p, .p, .p, .p, .p, .e [], .p, .e [], .p, .p, .p, .e [], .p, .p] (n := 118) (by kernel_rfl) (by simp [hn]) ?_
      simp [s4, s7, s8, a7, a71, a72, a82, a73, a83, eok, fok, okW_of eok, okW_of fok, f1, f2, f3, f4, f5, f6, ex0, o18, o20, qq, und4, dWakes]
      have bas : ∀ {v : AV} {L : List AV}, Sl S v 5 L → baseV v = true := fun h => by rcases h.cases with rfl | ⟨_, _, _, _, _, _, rfl⟩ <;> rfl
      exact ⟨bas he.sl, bas hf.sl⟩
end
end Go.Proofs.YtpglcebeldgeeaaGreatDoor.val

namespace Go.Proofs.YtpglcebeldgeeaaGreatDoor.run
open Go Go.Am
theorem wakesSays : true = Am.saysK Tryz.prog laid.A0 1000000 15 true := by kernel_rfl
end Go.Proofs.YtpglcebeldgeeaaGreatDoor.run

namespace Go.Proofs.YtpglcebeldgeeaaGreatDoor.val
open Go Go.Am Go.Proofs.YtpglcebeldgeeaaGreatDoor.laid
set_option linter.unusedVariables false
set_option linter.unusedSimpArgs false

noncomputable def flT (cx : Am.Cx) (t : TypeId) : Option (List TypeId) := match und cx t with | some (.struct fs) => some (fs.toList.map (·.type)) | _ => none
section
variable {cx : Am.Cx}
theorem rec_of {S : AS} {m : Nat} {t : TypeId} {l : List TypeId} {x : List AV} (h : flT cx t = some l) (hx : typedA cx S (m + 1) t x) : fieldsA (szOf cx) (typedA cx S m) l x := by
  unfold flT at h
  split at h
  · rename_i fs hu
    cases h
    unfold typedA at hx
    simp only [hu] at hx
    exact hx
  · cases h
theorem chunks {α : Type} {sz : Nat} {enc : α → List AV} {G : α → Prop} : ∀ (k : Nat) (cells : List AV), cells.length = k * sz → (∀ i, i < k → ∃ a, (cells.drop (i * sz)).take sz = enc a ∧ G a) → ∃ l : List α, l.length = k ∧ cells = l.flatMap enc ∧ ∀ a, a ∈ l → G a
  | 0, cells, h, _ => by
    rw [Nat.zero_mul] at h
    exact ⟨[], rfl, by rw [List.length_eq_zero_iff.1 h]; rfl, fun a ha => by cases ha⟩
  | k + 1, cells, h, hc => by
    obtain ⟨a, e, g⟩ := hc 0 (by omega)
    rw [Nat.succ_mul] at h
    obtain ⟨l, h1, h2, h3⟩ := chunks (sz := sz) (enc := enc) (G := G) k (cells.drop sz) (by rw [List.length_drop]; omega) (fun i hi => by
      obtain ⟨b, e, g⟩ := hc (i + 1) (by omega)
      refine ⟨b, ?_, g⟩
      rw [← e, List.drop_drop]
      congr 2
      rw [Nat.succ_mul, Nat.add_comm])
    refine ⟨a :: l, by rw [List.length_cons, h1], ?_, fun b hb => ?_⟩
    · rw [List.flatMap_cons, ← h2, ← e, Nat.zero_mul, List.drop_zero, List.take_append_drop]
    · rcases List.mem_cons.1 hb with rfl | hb
      · exact g
      · exact h3 b hb
theorem sl_of {S : AS} {m : Nat} {t e sz : Nat} {avs : List AV} (hu : und cx t = some (.slice e)) (hs : szOf cx e = some sz) (h : typedA cx S (m + 1) t avs) {α : Type} {enc : α → List AV} {G : α → Prop} (hz : ∀ a, (enc a).length = sz)
    (hel : ∀ x, typedA cx S m e x → ∃ a, x = enc a ∧ G a) : ∃ (u : AV) (l : List α), avs = [u] ∧ Sl S u sz (l.flatMap enc) ∧ (∀ a, a ∈ l → G a) ∧ l.length ≤ maxLen ∧ ∀ bs, bytesOf cx e = some bs → l.length * bs ≤ reachBytes := by
  unfold typedA at h
  simp only [hu] at h
  rcases h with rfl | ⟨id, len, cap, sz', rfl, h1, h2, h3, h4, hb, h5, h6⟩
  · exact ⟨_, [], rfl, Sl.nil, fun a ha => (by cases ha), by simp, fun bs _ => by simp⟩
  · rw [hs] at h1
    cases h1
    rcases h6 with rfl | ⟨cells, ty, g1, g2, g3⟩
    · obtain rfl : len = 0 := by omega
      exact ⟨_, [], rfl, ⟨by simp [isSl, capB], rfl, by simp [sLen], h5⟩, fun a ha => (by cases ha), by simp, fun bs _ => by simp⟩
    · obtain ⟨l, k1, k2, k3⟩ := chunks cap cells g2 fun i hi => hel _ (g3 i hi)
      subst k2
      refine ⟨_, l.take len, rfl, ⟨by simp [isSl, capB, h3], ?_, by rw [fm_len hz, List.length_take]; simp only [sLen]; congr 1; omega, h5⟩, fun a ha => k3 a (List.mem_of_mem_take ha), by rw [List.length_take]; omega, fun bs hbs => Nat.le_trans (Nat.mul_le_mul_right _ (by rw [List.length_take]; omega)) (hb bs hbs)⟩
      cases len with
      | zero => simp [rdS]
      | succ len =>
        simp only [rdS, rd_at, g1, rdO_row]
        rw [if_pos ⟨Nat.le_refl _, Nat.le_refl _, by rw [Nat.zero_add]; exact Nat.mul_le_mul_right _ h3⟩, List.drop_zero, fm_take hz]
theorem argInt {S : AS} {m : Nat} {t : TypeId} {avs : List AV} (hu : und cx t = some (.int .i64)) (h : typedA cx S (m + 1) t avs) : ∃ n : Int, avs = [.int .i64 n] := by
  unfold typedA at h
  simp only [hu] at h
  obtain ⟨n, e, _, _⟩ := h
  exact ⟨n, e⟩
theorem argBool {S : AS} {m : Nat} {t : TypeId} {avs : List AV} (hu : und cx t = some .bool) (h : typedA cx S (m + 1) t avs) : ∃ b : Bool, avs = [.bool b] := by
  unfold typedA at h
  simp only [hu] at h
  exact h
theorem argU8 {S : AS} {m : Nat} {t : TypeId} {avs : List AV} (hu : und cx t = some (.int .u8)) (h : typedA cx S (m + 1) t avs) : ∃ n : Nat, avs = [.int .u8 n] ∧ n < 256 := by
  unfold typedA at h
  simp only [hu] at h
  obtain ⟨n, e, k1, k2⟩ := h
  have hmax : IntKind.u8.max = 255 := rfl
  have hmin : IntKind.u8.min = 0 := rfl
  rw [hmin] at k1; rw [hmax] at k2
  exact ⟨n.toNat, by rw [e, Int.toNat_of_nonneg k1], by omega⟩
theorem argI64 {S : AS} {m : Nat} {t : TypeId} {avs : List AV} (hu : und cx t = some (.int .i64)) (h : typedA cx S (m + 1) t avs) : ∃ n : Int, avs = [.int .i64 n] ∧ -9223372036854775808 ≤ n ∧ n < 9223372036854775808 := by
  unfold typedA at h
  simp only [hu] at h
  obtain ⟨n, e, k1, k2⟩ := h
  have hmax : IntKind.i64.max = 9223372036854775807 := rfl
  have hmin : IntKind.i64.min = -9223372036854775808 := rfl
  rw [hmin] at k1; rw [hmax] at k2
  exact ⟨n, e, k1, by omega⟩
theorem argStr {S : AS} {m : Nat} {t : TypeId} {avs : List AV} (hu : und cx t = some .string) (h : typedA cx S (m + 1) t avs) : ∃ s : List Nat, avs = [.str s] ∧ s.length < 140737488355328 ∧ ∀ c, c ∈ s → c < 256 := by
  unfold typedA at h
  simp only [hu] at h
  obtain ⟨s, e, k1, k2⟩ := h
  have : reachBytes = 140737488351232 := rfl
  exact ⟨s, e, by omega, k2⟩
/-- What is asked of the types. -/
structure EvFacts (cx : Am.Cx) : Prop where
  un3 : und cx 3 = some (.int .i64)
  un2 : und cx 2 = some (.int .i64)
  un4 : und cx 4 = some .bool
  un9 : und cx 9 = some .string
  fl32 : flT cx 32 = some [3, 2, 9, 4]
  fl34 : flT cx 34 = some [9, 32]
  fl24 : flT cx 24 = some [9, 22]
  un22 : und cx 22 = some (.slice 34)
  sz34 : szOf cx 34 = some 5
  by34 : bytesOf cx 34 = some 56
  ag9 : aggOf cx 9 = some false
  ag22 : aggOf cx 22 = some false
  ag24 : aggOf cx 24 = some true
theorem val_of (K : EvFacts cx) {S : AS} {m : Nat} {x : List AV} (h : typedA cx S (m + 2) 32 x) : ∃ v : ValV, x = encV v ∧ okV2 v := by
  obtain ⟨a, _, rfl, _, h1, b, _, rfl, _, h2, c, _, rfl, _, h3, d, _, rfl, _, h4, rfl⟩ := rec_of K.fl32 h
  obtain ⟨k, rfl, _⟩ := argI64 K.un3 h1
  obtain ⟨n, rfl, n1, n2⟩ := argI64 K.un2 h2
  obtain ⟨s, rfl, s1, s2⟩ := argStr K.un9 h3
  obtain ⟨b, rfl⟩ := argBool K.un4 h4
  exact ⟨⟨k, n, s, b⟩, rfl, s2, n1, n2⟩
theorem att_of (K : EvFacts cx) {S : AS} {m : Nat} {x : List AV} (h : typedA cx S (m + 3) 34 x) : ∃ a : Att, x = encA a ∧ okAtt a := by
  obtain ⟨a, _, rfl, _, h1, b, _, rfl, _, h2, rfl⟩ := rec_of K.fl34 h
  obtain ⟨s, rfl, s1, s2⟩ := argStr K.un9 h1
  obtain ⟨v, rfl, hv⟩ := val_of K h2
  exact ⟨⟨s, v⟩, by simp [encA], s2, by show s.length ≤ _; omega, hv⟩
theorem atts_of (K : EvFacts cx) {S : AS} {m : Nat} {x : List AV} (h : typedA cx S (m + 4) 22 x) : ∃ (u : AV) (l : List Att), x = [u] ∧ AttsAt S u l := by
  obtain ⟨u, l, rfl, g1, g0, _, g2⟩ := sl_of (G := okAtt) K.un22 K.sz34 h encA_len (fun x hx => att_of K hx)
  have hb := g2 56 K.by34
  refine ⟨u, l, rfl, g1, ?_, g0⟩
  have : reachBytes = 140737488351232 := rfl
  omega
theorem ev_of (K : EvFacts cx) {S : AS} {m : Nat} {x : List AV} (h : typedA cx S (m + 5) 24 x) : ∃ (s : List Nat) (u : AV) (l : List Att), x = [.str s, u] ∧ AttsAt S u l ∧ s.length < 140737488355328 ∧ ∀ c, c ∈ s → c < 256 := by
  obtain ⟨a, _, rfl, _, h1, b, _, rfl, _, h2, rfl⟩ := rec_of K.fl24 h
  obtain ⟨s, rfl, s1, s2⟩ := argStr K.un9 h1
  obtain ⟨u, l, rfl, g⟩ := atts_of K h2
  exact ⟨s, u, l, rfl, g, s1, s2⟩
theorem argsMakes (K : EvFacts cx) {S : AS} {m : Nat} {vals : List AV} (h : typedArgs cx S (m + 5) [9, 22, 24, 24, 9] vals) :
    ∃ (key ek fk name : List Nat) (u eu fu : AV) (l el fl : List Att), vals = [.str key, u, .agg [.str ek, eu], .agg [.str fk, fu], .str name] ∧ AttsAt S u l ∧ AttsAt S eu el ∧ AttsAt S fu fl ∧ name.length < 140737488355328 ∧ ∀ c, c ∈ name → c < 256 := by
  obtain ⟨a1, r1, rfl, h1, a2, r2, rfl, h2, a3, r3, rfl, h3, a4, r4, rfl, h4, a5, r5, rfl, h5, rfl⟩ := h
  obtain ⟨key, rfl, _, _⟩ := argStr K.un9 h1
  obtain ⟨u, l, rfl, hu⟩ := atts_of K h2
  obtain ⟨ek, eu, el, rfl, he, _, _⟩ := ev_of K h3
  obtain ⟨fk, fu, fl, rfl, hf, _, _⟩ := ev_of K h4
  obtain ⟨name, rfl, n1, n2⟩ := argStr K.un9 h5
  exact ⟨key, ek, fk, name, u, eu, fu, l, el, fl, by simp only [argA, K.ag9, K.ag22, K.ag24, soleA], hu, he, hf, n1, n2⟩
theorem argsTexts (K : EvFacts cx) {S : AS} {m : Nat} {vals : List AV} (h : typedArgs cx S (m + 5) [24, 9] vals) :
    ∃ (ek s : List Nat) (eu : AV) (el : List Att), vals = [.agg [.str ek, eu], .str s] ∧ AttsAt S eu el ∧ (∀ c, c ∈ ek → c < 256) ∧ s.length < 140737488355328 ∧ ∀ c, c ∈ s → c < 256 := by
  obtain ⟨a1, r1, rfl, h1, a2, r2, rfl, h2, rfl⟩ := h
  obtain ⟨ek, eu, el, rfl, he, _, hk⟩ := ev_of K h1
  obtain ⟨s, rfl, n1, n2⟩ := argStr K.un9 h2
  exact ⟨ek, s, eu, el, by simp only [argA, K.ag9, K.ag24, soleA], he, hk, n1, n2⟩
end
theorem evFacts0 : EvFacts C0 := ⟨by kernel_rfl, by kernel_rfl, by kernel_rfl, by kernel_rfl, by kernel_rfl, by kernel_rfl, by kernel_rfl, by kernel_rfl, by kernel_rfl, by kernel_rfl, by kernel_rfl, by kernel_rfl, by kernel_rfl⟩
end Go.Proofs.YtpglcebeldgeeaaGreatDoor.val

namespace Go.Proofs.YtpglcebeldgeeaaGreatDoor.val
open Go Go.Am Go.RowKit Go.ChangeShapes Go.WideShapes Go.ChangeAt Go.Proofs.YtpglcebeldgeeaaGreatDoor.laid
set_option linter.unusedVariables false
set_option linter.unusedSimpArgs false

theorem pWakes {W : World} {B : Nat → Prop} (hg : ∀ x, x ∈ laid.A0.globs → GlobOk W B x.1 x.2) : PrimOk ⟨W, B⟩ Tryz.prog 15 (boolQ true) := by
  intro ρ l S w args v S' hR hl hq
  cases l with
  | cons x xs => cases hq
  | nil =>
    cases hq
    simp only [LRel] at hl
    have : args = #[] := Array.ext' (by simpa using hl)
    subst this
    refine ⟨⟨_, Tryz.func15, by kernel_rfl⟩, (call_fast (Λ := ⟨W, B⟩) (laid.ready laid.A0 rfl rfl) (fun x hx => by cases hx) hg 1000000 15 true run.wakesSays w hR.start (fun b hb => ⟨(hR.base b hb).1, (hR.base b hb).2.1⟩)).mono fun e w' he => ?_⟩
    obtain ⟨h1, h2⟩ := hR.below he.2
    exact ⟨.bool true, ρ, he.1, by simp [VRel], h1, h2⟩
theorem primsA {W : World} {B : Nat → Prop} (hg : ∀ x, x ∈ laid.A0.globs → GlobOk W B x.1 x.2) : ∀ x, x ∈ A0.prims → PrimOk ⟨W, B⟩ Tryz.prog x.1 x.2 := by
  intro x hx
  simp only [A0, List.mem_cons, List.not_mem_nil, or_false] at hx
  subst hx
  exact pWakes hg
theorem globs_lt {W : World} (hg : ∀ x, x ∈ laid.A0.globs → GlobOk W laid.B x.1 x.2) : ∀ x, x ∈ laid.A0.globs → GlobOk W (fun b => b < W.heap.size) x.1 x.2 := fun x hx => let ⟨a, b⟩ := hg x hx; ⟨(laid.base_of hg _ a).1, b⟩
end Go.Proofs.YtpglcebeldgeeaaGreatDoor.val
