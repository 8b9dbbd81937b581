/-
  How many bytes an event's form has: few, where its attributes are few.
  'JudgeMisses': the functions that its runs need not enter.
-/
import Derived.Test.YtpgmahedcpepkaaGreatDoorPartB
import Derived.Test.YtpgmahedcpepkaaGreatDoorPartC
import Derived.Test.YtpgmahedcpepkaaGreatDoorPartE
import Derived.Test.YtpgmahedcpepkaaGreatDoorPartF
import Derived.Shelf.SlMaps.Clone
namespace Go.Proofs.YtpgmahedcpepkaaGreatDoor.bk
open Go Go.Am Go.Proofs.YtpgmahedcpepkaaGreatDoor.dk
open Go.Proofs.YtpgmahedcpepkaaGreatDoor.mod (Val encV encV_len Att encA encA_len AttsAt roomA evMay225 fn227 ok227 fn226 ok226 fn224 ok224 fn213 ok213 fn187 ok187 sub1 sub2 sub1s ag107 sz107)
set_option linter.unusedVariables false
set_option linter.unusedSimpArgs false

theorem numB10 (n : Nat) (h : n < 18446744073709551616) : (numB n).length ≤ 10 := numB_len 9 _ (by omega)
theorem flag_len (b : Bool) : (flagB b).length ≤ 10 := numB10 _ (by cases b <;> decide)
theorem lenB_len {s : List Nat} {k : Nat} (h : s.length ≤ k) (hk : k ≤ 100000) : (lenB s).length ≤ 10 + k := by
  have := numB10 s.length (by omega)
  unfold lenB; rw [List.length_append]; omega
theorem valueB_len {a : Val} (h : ValOk a) : (valueB a).length ≤ 52 := by
  have h1 := numB10 _ (uN_lt a.kind)
  have h2 := numB10 _ (zig_bits a.num).1
  have h3 := lenB_len (s := a.str) h.2.2 (by omega)
  have h4 := flag_len a.bool
  unfold valueB bodyB
  rw [List.length_append]
  split
  · omega
  · split
    · omega
    · split
      · omega
      · simp; omega
section
variable {lo : Nat} {S T : AS}
theorem nt227 : Tryz.f254.ntmps = 32 := by kernel_rfl
def evH (lo : Nat) (S : AS) (w : Nat) (u : AV) (l : List Att) (k : Nat) (F' : Fr) (S' : AS) : Prop :=
  ∃ (i : Nat) (bs : List Nat), WrAt lo S' w bs ∧ bs.length ≤ 40 + i * 80 ∧ Keep (fun id => id = w) S S' ∧ sl F' 0 = .ptr w 0 0 1 ∧ sl F' 17 = u ∧ sl F' 18 = .int .i64 l.length ∧ sl F' 19 = .int .i64 i ∧ i ≤ l.length ∧ k = l.length - i
theorem evH_mk {w : Nat} {u : AV} {l : List Att} {k : Nat} {F' : Fr} {S' : AS} {bs : List Nat} (i : Nat) (h1 : WrAt lo S' w bs) (h1' : bs.length ≤ 40 + i * 80) (h2 : Keep (fun id => id = w) S S') (h3 : sl F' 0 = .ptr w 0 0 1) (h4 : sl F' 17 = u) (h5 : sl F' 18 = .int .i64 l.length) (h6 : sl F' 19 = .int .i64 i) (h7 : i ≤ l.length) (h8 : k = l.length - i) : evH lo S w u l k F' S' :=
  ⟨i, bs, h1, h1', h2, h3, h4, h5, h6, h7, h8⟩
theorem attsKeep {w : Nat} {u : AV} {l : List Att} (h : AttsAt S u l) (hk : Keep (fun id => id = w) S T) (hw : bnd u ≠ w + 1) : AttsAt T u l :=
  ⟨h.sl.agree (fun id e => hk.h id (by have := h.sl.old; omega) (by omega)) hk.next, h.le⟩
/-- The numbers are in reach. -/
def NumA (l : List Att) : Prop := ∀ a, a ∈ l → ValOk a.val
theorem event254 {w : Nat} {key : List Nat} {u : AV} {l : List Att} (h : WrAt lo S w []) (hu : AttsAt S u l) (hw : bnd u ≠ w + 1) (hk : key.length ≤ 16) (hl : roomA l) (hn : NumA l) :
    CallW C1 254 [.ptr w 0 0 1, .agg [.str key, u]] S fun r T => ∃ bs, WrAt lo T w bs ∧ bs.length ≤ 40 + l.length * 80 ∧ Keep (fun id => id = w) S T := by
  have hS1 : Sub S ⟨S.h.set S.next (.row [.str key, u] 0 0 false 33), S.next + 1⟩ := sub1
  have hlt := h.lt
  obtain ⟨r, T, ⟨g1, g2⟩, e1⟩ := (text240 (s := key) (h.sub hS1) (by simp) (by omega)).ex
  obtain ⟨l1, l2⟩ := hl
  have hlk := lenB_len hk (by omega)
  obtain ⟨r, T2, ⟨g3, g4⟩, e2⟩ := (num197 (n := l.length) g1 (by simp; omega) (by omega)).ex
  have hTn : S.next + 1 ≤ T.next := g2.next
  have hT2n := g4.next
  have b0 : T.h.get S.next = some (.row [.str key, u] 0 0 false 33) := by rw [g2.h _ (Nat.lt_succ_self _) (by omega)]; exact get_set_same _ _ _
  have b1 : T2.h.get S.next = some (.row [.str key, u] 0 0 false 33) := by rw [g4.h _ (by omega) (by omega)]; exact b0
  have hK : Keep (fun id => id = w) S T2 := ((hS1.keep).trans g2).trans g4
  have u1 := hu.sl.sl
  have u2 := hu.sl.len_flat encA_len (by omega)
  have hwr : IntKind.u64.wrap ((l.length : Nat) : Int) = (l.length : Int) := u64_nat (n := l.length) (by omega)
  have uk := okW_sl hu.sl
  have hnum := numB10 l.length (by omega)
  refine enterW (pu1 _) (pr1 _ rfl) fn227 rfl ok227 (by simp) fun F hn' hs' => ?_
  rw [nt227] at hn'
  have s0 := hs' 0
  have s1 := hs' 1
  clear hs'
  simp only [List.getElem?_cons_zero, List.getElem?_cons_succ, Option.getD_some] at s0 s1
  simp [s0, s1, e1, e2, b0, b1, u1, u2, uk, hwr, ex1, hu.sl.cells]
  refine loopP_of (evH lo S w u l) l.length (evH_mk 0 g3 (by simp; omega) hK (by simp [s0]) (by simp) (by simp) (by simp) (Nat.zero_le _) rfl) ?_
  clear g3 g4 hK b0 b1 e1 e2 g1 g2 hT2n hTn
  rintro k F' S' hn'' ⟨i, bs, q1, q1', q2, t0, t17, t18, t19, hi, hk'⟩
  clear hn'' hn' s0 s1
  by_cases hi' : i < l.length
  · have hx : l[i]? = some l[i] := List.getElem?_eq_getElem hi'
    have huS := attsKeep hu q2 hw
    have hlo := loadT_el (cx := C1) (e := 50) huS.sl encA_len (by omega) hx ag107 sz107
    obtain ⟨m1, m2⟩ := l2 _ (List.getElem_mem hi')
    have hv := hn _ (List.getElem_mem hi')
    have hlt' := q1.lt
    have hZ : Sub S' ⟨(S'.h.set S'.next (.row [.str [], .int .i64 0, .int .i64 0, .str [], .bool false] 0 0 false 50)).set S'.next (.row (encA l[i]) 0 0 false 50), S'.next + 1⟩ := sub1s
    have hln := lenB_len m1 (by omega)
    have hlv := valueB_len hv
    obtain ⟨r, V, ⟨p1, p2⟩, e3⟩ := (text240 (s := l[i].name) (q1.sub hZ) (by omega) (by omega)).ex
    obtain ⟨r, W, ⟨p3, p4⟩, e4⟩ := (value241 l[i].val p1 (by simp; omega) hv).ex
    have b2 : V.h.get S'.next = some (.row (encA l[i]) 0 0 false 50) := by rw [p2.h _ (Nat.lt_succ_self _) (by omega)]; exact get_set_same _ _ _
    have hK2 : Keep (fun id => id = w) S W := ((q2.trans hZ.keep).trans p2).trans p4
    have hwi := wrap_succ (i := i) (by omega)
    simp only [encA, encV] at hlo e3 e4 b2
    simp [t0, t17, t18, t19, u1, u2, hi', hlo, e3, e4, b2, ex1, hwi]
    exact ⟨l.length - (i + 1), by omega, evH_mk (i + 1) p3 (by simp; omega) hK2 (by simp [t0]) (by simp [t17]) (by simp [t18]) (by simp) hi' rfl⟩
  · simp [t0, t17, t18, t19, hi']
    exact ⟨bs, q1, by omega, q2⟩
theorem bld350 (id g o n l z : Nat) (c : Option Nat) : buildA C1 350 [(0, .slice id g o n l z c)] = some (.agg [.slice id g o n l z c]) := by kernel_rfl
theorem put253 {w b : Nat} {key : List Nat} {u : AV} {l : List Att} (h : WrAt lo S w []) (hb : S.h.get b = some (.row [.str key, u] 0 0 false 33)) (hbl : b < S.next) (hu : AttsAt S u l) (hw : bnd u ≠ w + 1) (hk : key.length ≤ 16) (hl : roomA l) (hn : NumA l) :
    CallW C1 253 [.ptr w 0 0 1, .ptr b 0 0 2] S fun r T => ∃ bs, WrAt lo T w bs ∧ bs.length ≤ 40 + l.length * 80 ∧ Keep (fun id => id = w) S T := by
  obtain ⟨r, T, h1, e1⟩ := (event254 (key := key) h hu hw hk hl hn).ex
  refine enterW (pu1 _) (pr1 _ rfl) fn226 rfl ok226 (by simp) fun F hn hs' => ?_
  have s0 := hs' 0
  have s1 := hs' 1
  clear hs'
  simp only [List.getElem?_cons_zero, List.getElem?_cons_succ, Option.getD_some] at s0 s1
  simp [s0, s1, hb, e1, ex1, okW_sl hu.sl]
  exact h1
theorem form224 {b : Nat} {key : List Nat} {u : AV} {l : List Att} (t : Bool) (hb : S.h.get b = some (.row [.str key, u] 0 0 false 33)) (hbl : b < S.next) (hu : AttsAt S u l) (ht : t = true → key.length ≤ 16 ∧ roomA l) (hn : NumA l) :
    CallW C1 224 [.bool t, .func (.func 253) [] [.ptr b 0 0 2]] S fun r T => ∃ v cs e, r = .tuple [v, .int .i64 e] ∧ Sl T v 1 cs ∧ cs.length ≤ 40 + l.length * 80 ∧ Sub S T := by
  cases t with
  | false =>
    refine enterW (pu1 _) (pr1 _ rfl) fn224 rfl ok224 (by simp) fun F hn hs' => ?_
    have s0 := hs' 0
    have s1 := hs' 1
    clear hs'
    simp only [List.getElem?_cons_zero, List.getElem?_cons_succ, Option.getD_some] at s0 s1
    simp [s0, s1]
    exact ⟨[], Sl.nil, by simp, Sub.refl S⟩
  | true =>
    obtain ⟨k1, k2⟩ := ht rfl
    have h1 : Sub S ⟨(S.h.set S.next (.row [] 0 0 false 5)).set (S.next + 1) (.row [.slice S.next 0 0 0 0 1 (some 0)] 0 0 false 350), S.next + 2⟩ := sub2
    have hold := hu.sl.old
    have hW : WrAt 0 ⟨(S.h.set S.next (.row [] 0 0 false 5)).set (S.next + 1) (.row [.slice S.next 0 0 0 0 1 (some 0)] 0 0 false 350), S.next + 2⟩ (S.next + 1) [] := by
      refine ⟨⟨_, get_set_same _ _ _, Gw.fresh ?_ (by show S.next < S.next + 2; omega), by simp [bnd], .inr (by simp [bnd])⟩, by show S.next + 1 < S.next + 2; omega, Nat.zero_le _⟩
      show ((S.h.set _ _).set _ _).get _ = _
      rw [get_set_ne _ _ (by omega)]
      exact get_set_same _ _ _
    obtain ⟨r, T, ⟨bs, ⟨⟨v, q1, q2, q3, q4⟩, q5, _⟩, q7, q6⟩, e1⟩ := (put253 (key := key) hW (by rw [h1.h _ hbl]; exact hb) (by show b < S.next + 2; omega) (hu.sub h1) (by omega) k1 k2 hn).ex
    have hT : Sub S T := ⟨fun id hid => (q6.h id (by show id < S.next + 2; omega) (by omega)).trans (h1.h id hid), Nat.le_trans h1.next q6.next⟩
    refine enterW (pu1 _) (pr1 _ rfl) fn224 rfl ok224 (by simp) fun F hn hs' => ?_
    have s0 := hs' 0
    have s1 := hs' 1
    clear hs'
    simp only [List.getElem?_cons_zero, List.getElem?_cons_succ, Option.getD_some] at s0 s1
    simp [s0, s1, freshV_none st31, bld350, e1, ex1, q1, okW_sl q2.1, q2.1.np]
    exact ⟨_, q2.1, by rw [bytA_len]; exact q7, hT⟩
theorem put181 {key : List Nat} {u : AV} {l : List Att} (hu : AttsAt S u l) (hn : NumA l) :
    CallW C1 181 [.agg [.str key, u]] S fun r T => ∃ v cs e, r = .tuple [v, .int .i64 e] ∧ Sl T v 1 cs ∧ cs.length ≤ 40 + l.length * 80 ∧ Sub S T := by
  have h1 : Sub S ⟨S.h.set S.next (.row [.str key, u] 0 0 false 33), S.next + 1⟩ := sub1
  obtain ⟨r, T, ⟨b, rfl, hT, hb⟩, e1⟩ := (evMay225 (key := key) (hu.sub h1)).ex
  have g : T.h.get S.next = some (.row [.str key, u] 0 0 false 33) := by rw [hT.h _ (Nat.lt_succ_self _)]; exact get_set_same _ _ _
  obtain ⟨r, T2, ⟨v, cs, e, rfl, q1, q2, q3⟩, e2⟩ := (form224 b g hT.next (hu.sub (h1.trans hT)) hb hn).ex
  refine enterW (pu1 _) (pr1 _ rfl) fn213 rfl ok213 (by simp) fun F hn hs' => ?_
  have s0 := hs' 0
  clear hs'
  simp only [List.getElem?_cons_zero, Option.getD_some] at s0
  simp [s0, e1, e2, ex1, okW_sl hu.sl, hu.sl.cells, okW_sl q1, q1.np]
  exact ⟨cs, q1, q2, (h1.trans hT).trans q3⟩
theorem size91 {key : List Nat} {u : AV} {l : List Att} (hu : AttsAt S u l) (hn : NumA l) :
    CallW C1 91 [.agg [.str key, u]] S fun r T => ∃ n : Nat, r = .int .i64 n ∧ n ≤ 40 + l.length * 80 ∧ Sub S T := by
  have h1 : Sub S ⟨S.h.set S.next (.row [.str key, u] 0 0 false 33), S.next + 1⟩ := sub1
  obtain ⟨r, T, ⟨v, cs, e, rfl, q1, q2, q3⟩, e1⟩ := (put181 (key := key) (hu.sub h1) hn).ex
  refine enterW (pu1 _) (pr1 _ rfl) fn187 rfl ok187 (by simp) fun F hn hs' => ?_
  have s0 := hs' 0
  clear hs'
  simp only [List.getElem?_cons_zero, Option.getD_some] at s0
  have u1 := q1.sl
  have u2 := q1.len1
  simp [s0, e1, ex1, okW_sl hu.sl, hu.sl.cells, okW_sl q1, q1.np, u1, u2]
  exact ⟨cs.length, rfl, q2, h1.trans q3⟩
end
end Go.Proofs.YtpgmahedcpepkaaGreatDoor.bk

namespace Go.Proofs.YtpgmahedcpepkaaGreatDoor.mis
open Go Go.RowKit Go.Am
set_option linter.unusedVariables false
set_option linter.unusedSimpArgs false

theorem ready (A : Am.Ask) (h1 : A.eqs = laid.A0.eqs) (h2 : ∀ x, x ∈ A.exts → x ∈ laid.A0.exts) : Am.Ready Tryz.prog A := by
  have h := laid.ready laid.A0 rfl rfl
  exact ⟨h.1, by rw [h1]; exact h.2, h.3, fun x hx => h.4 x (h2 x hx)⟩
def renC : Go.Shelf.Ren := ⟨fun x => match x with | 5 => 190 | 7 => 259 | x => x, fun x => match x with | 4 => 4 | 20 => 20 | 23 => 173 | 25 => 3 | 3 => 30 | x => x, fun x => x⟩
theorem laysC : SlLaysW.n5 Tryz.prog renC where
  mixed := by kernel_rfl
  f5 := ⟨Tryz.f190.name, by kernel_rfl, by kernel_rfl⟩
  f7 := by kernel_rfl
  t4 := by kernel_rfl
  a4 := fun w => by kernel_rfl
  z4 := fun w => by kernel_rfl
  v4 := fun w => by kernel_rfl
  t20 := by kernel_rfl
  a20 := fun w => by kernel_rfl
  z20 := fun w => by kernel_rfl
  v20 := fun w => by kernel_rfl
  t23 := by kernel_rfl
  a23 := fun w => by kernel_rfl
  z23 := fun w => by kernel_rfl
  v23 := fun w => by kernel_rfl
theorem prim190 {Λ : LB} : PrimOk Λ Tryz.prog 190 q190 := by
  intro ρ vs S w args v S' hR hl hq
  unfold q190 at hq
  split at hq
  · rename_i id
    split at hq
    · rename_i es clock hid
      cases hq
      obtain ⟨y, ys, hy, hyr, rfl⟩ := (show ∃ y ys, args.toList = y :: ys ∧ VRel ρ (.map id) y ∧ ys = [] by simpa only [LRel] using hl)
      simp only [VRel] at hyr
      obtain ⟨pl, hp, rfl⟩ := hyr
      obtain rfl : args = #[.map (some pl.b)] := Array.ext' (by simpa using hy)
      obtain ⟨pl', ES, g1, g2, g3⟩ := hR.objs id _ hid
      rw [hp] at g1
      cases g1
      refine ⟨⟨Tryz.f190, Tryz.func190, rfl⟩, (AnyW.maps_Clone laysC pl.b ES clock w g2).mono ?_⟩
      rintro e w' ⟨rfl, rfl⟩
      obtain ⟨ρ', pl2, k1, k2, k3, k4⟩ := hR.newMap (es := es) (clock := clock) (ES := ES) (w' := w.alloc (.map ES clock)) ⟨⟨rfl, rfl, rfl⟩, rfl⟩ g3
      exact ⟨_, ρ', rfl, by simp only [VRel]; exact ⟨pl2, k1, by rw [k2]⟩, k3, k4⟩
    · cases hq
  · cases hq
open Go.Proofs.YtpgmahedcpepkaaGreatDoor.mod (Val encV encV_len Att encA encA_len AttsAt) in
theorem prim91 {Λ : LB} : PrimOk Λ Tryz.prog 91 q91 := by
  intro ρ vs S w args v S' hR hl hq
  unfold q91 at hq
  split at hq
  · rename_i k id g off len lim sz cap
    split at hq
    · rename_i nm kd j st bb low top frz ty hid
      cases hb : (Nat.ble low g && Nat.ble g top && Nat.beq off 0 && Nat.beq len 1 && Nat.beq sz 5 && Nat.ble 5 lim && Nat.ble st.length 32) with
      | false => rw [hb] at hq; cases hq
      | true =>
        rw [hb] at hq
        cases hq
        simp only [Bool.and_eq_true, Nat.ble_eq, Nat.beq_eq] at hb
        obtain ⟨⟨⟨⟨⟨⟨hlg, hgt⟩, rfl⟩, rfl⟩, rfl⟩, h5⟩, hst⟩ := hb
        obtain ⟨_, h2, _⟩ := hR.objs id _ hid
        obtain ⟨pl, C0, fr, a1, a2, a3, a4, a5, a6, a7, a8⟩ := h2 top (by omega) (Nat.le_refl _)
        obtain ⟨x, u, b1, b2, b3, b4⟩ := a6 2 (by rw [a7 rfl]; show 2 < 5; omega)
        cases b1
        simp only [VRel] at b3
        obtain ⟨plj, hj, _⟩ := b3
        obtain ⟨n, hn⟩ : ∃ n, n = IntKind.i64.wrap (symI plj.b) := ⟨_, rfl⟩
        have hrng := wrap_i64_rng (symI plj.b)
        rw [← hn] at hrng
        have hval : OK.val .sym plj.b = .int .i64 n := by rw [hn]; rfl
        have to1 : ∀ {ρ' : Rho}, ρ' j 0 = some plj → CellsTo ρ' [.str nm, .int .i64 kd, .obj .sym j, .str st, .bool bb] [.str nm, .int .i64 kd, .int .i64 n, .str st, .bool bb] := fun {ρ'} hj' => ⟨rfl, fun i x y hx hy v hv => by
          match i with
          | 0 => cases hx; cases hy; exact hv
          | 1 => cases hx; cases hy; exact hv
          | 2 =>
            cases hx; cases hy
            simp only [VRel] at hv ⊢
            obtain ⟨p, h1, h2⟩ := hv
            rw [hj'] at h1; cases h1
            rw [h2, hval]
          | 3 => cases hx; cases hy; exact hv
          | 4 => cases hx; cases hy; exact hv
          | i + 5 => cases hx⟩
        have to2 : ∀ {ρ' : Rho}, ρ' j 0 = some plj → CellsTo ρ' [.str nm, .int .i64 kd, .int .i64 n, .str st, .bool bb] [.str nm, .int .i64 kd, .obj .sym j, .str st, .bool bb] := fun {ρ'} hj' => ⟨rfl, fun i x y hx hy v hv => by
          match i with
          | 0 => cases hx; cases hy; exact hv
          | 1 => cases hx; cases hy; exact hv
          | 2 =>
            cases hx; cases hy
            simp only [VRel] at hv ⊢
            exact ⟨plj, hj', by rw [hv, hval]⟩
          | 3 => cases hx; cases hy; exact hv
          | 4 => cases hx; cases hy; exact hv
          | i + 5 => cases hx⟩
        have hR' := hR.conc hid (to1 hj)
        obtain ⟨S1, hS1⟩ : ∃ S1 : AS, S1 = ⟨S.h.set id (.row [.str nm, .int .i64 kd, .int .i64 n, .str st, .bool bb] low top frz ty), S.next⟩ := ⟨_, rfl⟩
        have hid1 : S1.h.get id = some (.row [.str nm, .int .i64 kd, .int .i64 n, .str st, .bool bb] low top frz ty) := by rw [hS1]; exact get_set_same _ _ _
        have hidlt := hR.dom id _ hid
        have hu : AttsAt S1 (.slice id g 0 1 lim 5 cap) [⟨nm, ⟨kd, n, st, bb⟩⟩] := by
          refine ⟨⟨?_, ?_, rfl, by rw [hS1]; show id + 1 ≤ S.next; omega⟩, by simp⟩
          · simp only [LRel, VRel] at hl
            obtain ⟨y, ys, _, ⟨ar, _, ⟨y1, ys1, _, _, y2, ys2, _, ⟨pl2, c, _, _, _, _, hle, hor⟩, _⟩, _⟩, _⟩ := hl
            show (decide (5 = 5) && capB 1 cap) = true
            cases cap with
            | none => rfl
            | some q =>
              rcases hor with ⟨_, _, hk⟩ | ⟨h0, _⟩
              · obtain ⟨rfl, _⟩ := hk q rfl
                simp [capB, hle]
              · omega
          · show rd S1 id g 0 ((0 + 1) * 5) lim = _
            rw [rd_at, hid1, rdO_row, if_pos ⟨hlg, hgt, by omega⟩]
            rfl
        have hnum : bk.NumA [(⟨nm, ⟨kd, n, st, bb⟩⟩ : Att)] := fun a ha => by
          rw [List.mem_singleton] at ha
          subst ha
          exact ⟨hrng.1, hrng.2, hst⟩
        have hc : CallW mod.C0 91 [.agg [.str k, .slice id g 0 1 lim 5 cap]] S1 fun v T => (∃ n : Nat, v = .int .i64 n ∧ n ≤ 120) ∧ Sub S1 T := by
          obtain ⟨r, T, ⟨q, rfl, h1, h2⟩, e⟩ := (bk.size91 (key := k) hu hnum).ex
          rw [e]
          exact ⟨⟨q, rfl, by simpa using h1⟩, h2⟩
        rw [← hS1] at hR'
        obtain ⟨k1, k2⟩ := flat_kept (A := mod.A0) (ready mod.A0 rfl (fun x hx => by rw [List.mem_singleton] at hx; subst hx; exact List.mem_cons_self)) (fun x hx => by cases hx) (fun x hx => by cases hx) 1 hR' hl (fun v ⟨q, hv, _⟩ => by rw [hv]; rfl) hc
        refine ⟨k1, k2.mono ?_⟩
        rintro e w' ⟨x, v, ρ', rfl, ⟨q, rfl, hq⟩, c1, c2, c3⟩
        simp only [VRel] at c1
        subst c1
        have hj' := c3.ext _ _ _ hj
        have hn1 : S1.next = S.next := by rw [hS1]
        have hget : ∀ i o, S.h.get i = some o → (S1.h.set id (.row [.str nm, .int .i64 kd, .obj .sym j, .str st, .bool bb] low top frz ty)).get i = some o := fun i o hi => by
          by_cases e : i = id
          · subst e; rw [hid] at hi; cases hi; exact get_set_same _ _ _
          · rw [get_set_ne _ _ e, hS1]
            show (S.h.set _ _).get i = _
            rw [get_set_ne _ _ e]; exact hi
        have d1 := (c2.conc hid1 (to2 hj')).cutTo (S' := S) hn1.symm hget
        have wr : ∀ b, Wrt ρ S1 b ↔ Wrt ρ S b := fun b => by rw [hS1]; exact wrt_row hid b
        have wr' : ∀ b, Wrt ρ' S1 b ↔ Wrt ρ' S b := fun b => by rw [hS1]; exact wrt_row hid b
        have mi : ∀ b, Mine ρ S1 b ↔ Mine ρ S b := fun b => by rw [hS1]; exact mine_row hid b
        have mi' : ∀ b, Mine ρ' S1 b ↔ Mine ρ' S b := fun b => by rw [hS1]; exact mine_row hid b
        have d2 : Kp ρ S w ρ' S w' := ⟨c3.ext, c3.os, c3.tape, c3.output, c3.size, fun b hb hw => c3.keep b hb (fun z => hw ((wr b).1 z)), fun b hb => (c3.mine b ((mi' b).2 hb)).imp_left (mi b).1, fun b hb => (c3.wrt b ((wr' b).2 hb)).imp_left (wr b).1, Nat.le_refl _, fun i g hi hn => by
          have hii : i ≠ id := fun e => by subst e; rw [hid] at hn; cases hn
          obtain ⟨z1, z2⟩ := c3.resv i g (by rw [hn1]; exact hi) (by rw [hS1]; show (S.h.set _ _).get i = _; rw [get_set_ne _ _ hii]; exact hn)
          exact ⟨z1, hn⟩⟩
        refine ⟨_, _, rfl, ?_, d1.1.sym (symPl q), d2.trans (Kp.sym d1.1 (symPl q))⟩
        simp only [VRel]
        refine ⟨symPl q, put_same _ _ _ _, ?_⟩
        show _ = Value.int .i64 (((q % 257 : Nat) : Int))
        rw [Nat.mod_eq_of_lt (by omega)]
    · cases hq
  · cases hq
end Go.Proofs.YtpgmahedcpepkaaGreatDoor.mis
