/-
  Policies; which items a policy lets go: that it ends.
  Tail: which items a policy lets go: that it ends.
  Tail, Low: that they end.
  What goes of a history.
  What a history's rule is asked about: the items that are there.
  What goes of a history: a rule's doings.
  What goes of a history: the items that are there, asked one by one.
  Retain.
  A book and a history, apart.
-/
import Derived.Test.YtedonhemfhfbaaaGreatPartH
namespace Go.Proofs.YtedonhemfhfbaaaGreat.mod
open Go Go.Am
set_option linter.unusedVariables false
set_option linter.unusedSimpArgs false

/-! ### Policies -/
def tooB (n : Int) : Bool := decide (n < 0) || decide (1099511627776 < n)
theorem too121 {S : AS} (n : Int) : CallW C0 121 [.int .i64 n] S fun r T => r = .bool (tooB n) ∧ Sub S T := by
  refine enterW (pu0 _) (pr0 _ rfl) fn121 rfl ok121 (by simp) fun F hn hs => ?_
  have s0 := hs 0
  clear hs
  simp only [List.getElem?_cons_zero, Option.getD_some] at s0
  unfold tooB
  by_cases h1 : n < 0 <;> by_cases h2 : 1099511627776 < n <;> simp [s0, h1, h2, Sub.refl]
def intL (l : List Int) : List AV := l.map fun n => AV.int .i64 n
theorem idx148 {S : AS} {u : AV} {l : List Int} {f : FuncId} {caps : List AV} {P : Int → Bool} (h : Sl S u 1 (intL l)) (hb : l.length ≤ 9223372036854775807) (hf : (f == 228) = false)
    (hc : ∀ T, Sub S T → ∀ x, x ∈ l → CallW C0 f (.int .i64 x :: caps) T fun v T' => v = .bool (P x) ∧ Sub T T') :
    CallW C0 148 [u, .func (.func f) [] caps] S fun v T => v = .int .i64 (idxI P l) ∧ Sub S T := by
  refine enterW (pu0 _) (pr0 _ rfl) fn148 rfl ok148 (by simp) fun F hn hs => ?_
  have s0 := hs 0
  have s1 := hs 1
  clear hs
  simp only [List.getElem?_cons_zero, List.getElem?_cons_succ, Option.getD_some] at s0 s1
  have u1 := h.sl
  have u2 : sLen u = l.length := by rw [h.len1]; simp [intL]
  simp [s0, s1, u1, u2]
  refine loopP_of (idxH S u (.func (.func f) [] caps) l P) l.length (idxH_mk 0 (Sub.refl S) (by simp [s0]) (by simp [s1]) (by simp) (by simp) (Nat.zero_le _) rfl (by simp)) ?_
  rintro k F' S' hn' ⟨i, hsub, t0, t1, t7, t8, hi, hk, ha⟩
  clear hn' s0 s1 hn
  by_cases hi' : i < l.length
  · have hx : l[i]? = some l[i] := List.getElem?_eq_getElem hi'
    have hl := loadT_sl (cx := C0) (e := 3) (h.toSub hsub) (k := i) (x := .int .i64 l[i]) (by unfold intL; rw [List.getElem?_map, hx]; rfl) ag3
    obtain ⟨v, T', ⟨rfl, hs⟩, e⟩ := (hc S' hsub l[i] (List.getElem_mem hi')).ex
    cases hp : P l[i] with
    | true => simp [t0, t1, t7, t8, u1, u2, hi', hl, e, hp, ex0 f hf, hsub.trans hs, idxI_at hx hp ha]
    | false =>
      simp [t0, t1, t7, t8, u1, u2, hi', hl, e, hp, ex0 f hf]
      exact ⟨l.length - (i + 1), by omega, idxH_mk (i + 1) (hsub.trans hs) (by simp [t0]) (by simp [t1]) (by simp [t7]) (by simp [wrap_succ (show i < 9223372036854775807 by omega)]) hi' rfl (take_step hx hp ha)⟩
  · have hall : ∀ x, x ∈ l → P x = false := fun x hx => ha x (by rw [List.take_of_length_le (by omega)]; exact hx)
    simp [t7, t8, hi', idxI_none hall, hsub]
theorem con122 {S : AS} {u : AV} {l : List Int} {f : FuncId} {caps : List AV} {P : Int → Bool} (h : Sl S u 1 (intL l)) (hb : l.length ≤ 9223372036854775807) (hf : (f == 228) = false)
    (hc : ∀ T, Sub S T → ∀ x, x ∈ l → CallW C0 f (.int .i64 x :: caps) T fun v T' => v = .bool (P x) ∧ Sub T T') :
    CallW C0 122 [u, .func (.func f) [] caps] S fun v T => v = .bool (l.any P) ∧ Sub S T := by
  obtain ⟨v, T, ⟨rfl, hs⟩, e⟩ := (idx148 h hb hf hc).ex
  refine enterW (pu0 _) (pr0 _ rfl) fn122 rfl ok122 (by simp) fun F hn hs => ?_
  have s0 := hs 0
  have s1 := hs 1
  clear hs
  simp only [List.getElem?_cons_zero, List.getElem?_cons_succ, Option.getD_some] at s0 s1
  simp [s0, s1, e, ex0, hs, idxI_any]
theorem freshV_3 {cx : Am.Cx} {F : Fr} {t : TypeId} {p : Nat × Nat × Nat} {id : Nat} {x0 x1 x2 : Tmp} {v0 v1 v2 : AV} {c0 c1 c2 : AV} (h : slT cx t = some p) (h0 : sl F x0 = v0) (h1 : sl F x1 = v1) (h2 : sl F x2 = v2)
    (e0 : cellsOf v0 = some [c0]) (e1 : cellsOf v1 = some [c1]) (e2 : cellsOf v2 = some [c2]) (hp : p.2.1 = 1) :
    freshV cx F id (.buildSlice t 3 #[(0, .tmp x0), (1, .tmp x1), (2, .tmp x2)]) = some (.slice id 0 0 3 3 1 (some 3), .row [c0, c1, c2] 0 0 false p.1) := by
  have := freshV_els (cx := cx) (F := F) (t := t) (p := p) (id := id) (n := 3) (a := #[(0, .tmp x0), (1, .tmp x1), (2, .tmp x2)]) [[c0], [c1], [c2]] h rfl (by simp [eval_tmp, h0, h1, h2, e0, e1, e2]) (by simp [hp]) (by omega)
  simpa [hp] using this
def polB (a b c : Int) : Bool := !(tooB a || tooB b || tooB c)
theorem may64 {S : AS} (a b c : Int) : CallW C0 64 [.agg [.int .i64 a, .int .i64 b, .int .i64 c]] S fun r T => r = .bool (polB a b c) ∧ Sub S T := by
  have h1 : Sub S ⟨(S.h.set S.next (.row [.int .i64 a, .int .i64 b, .int .i64 c] 0 0 false 30)).set (S.next + 1) (.row [.int .i64 a, .int .i64 b, .int .i64 c] 0 0 false 3), S.next + 2⟩ := sub2
  have hx : Sl ⟨(S.h.set S.next (.row [.int .i64 a, .int .i64 b, .int .i64 c] 0 0 false 30)).set (S.next + 1) (.row [.int .i64 a, .int .i64 b, .int .i64 c] 0 0 false 3), S.next + 2⟩ (.slice (S.next + 1) 0 0 3 3 1 (some 3)) 1 (intL [a, b, c]) :=
    ⟨by simp [isSl, capB], by simp [rdS, rd_at, get_set_same, rdO_row, intL], by simp [sLen, intL], by simp [bnd]⟩
  obtain ⟨r, T, ⟨rfl, hT⟩, e⟩ := (con122 (f := 121) (caps := []) (P := tooB) hx (by simp) rfl (fun T hT x hx => too121 x)).ex
  refine enterW (pu0 _) (pr0 _ rfl) fn64 rfl ok64 (by simp) fun F hn hs => ?_
  have s0 := hs 0
  clear hs
  simp only [List.getElem?_cons_zero, Option.getD_some] at s0
  simp [s0, freshV_3, e, ex0, h1.trans hT, polB, Bool.and_assoc]

/-! ### Items -/
structure ItemG where
  n : Nat
  time : Nat
  key : List Nat
  u : AV
  atts : List Att
def encI (x : ItemG) : List AV := [.int .u64 x.n, .int .u64 x.time, .str x.key, x.u]
theorem encI_len (x : ItemG) : (encI x).length = 4 := rfl
structure ItemsAt (S : AS) (x : AV) (l : List ItemG) : Prop where
  sl : Sl S x 4 (l.flatMap encI)
  att : ∀ i, i ∈ l → AttsAt S i.u i.atts
  le : l.length ≤ 1048576
theorem ItemsAt.sub {S T : AS} {x : AV} {l : List ItemG} (h : ItemsAt S x l) (hs : Sub S T) : ItemsAt T x l := ⟨h.sl.toSub hs, fun i hi => (h.att i hi).sub hs, h.le⟩
theorem age150 {S : AS} (x : ItemG) (now : Nat) (hu : AttsAt S x.u x.atts) : CallW C0 150 [.agg (encI x), .int .u64 now] S fun r T => ∃ m : Int, r = .int .u64 m ∧ Sub S T := by
  have h1 : Sub S ⟨S.h.set S.next (.row (encI x) 0 0 false 42), S.next + 1⟩ := sub1
  have hc := hu.sl.cells
  refine enterW (pu0 _) (pr0 _ rfl) fn150 rfl ok150 (by simp) fun F hn hs => ?_
  have s0 := hs 0
  have s1 := hs 1
  clear hs
  simp only [List.getElem?_cons_zero, List.getElem?_cons_succ, Option.getD_some, encI] at s0 s1 h1
  by_cases h : (now : Int) < x.time <;> simp [s0, s1, hc, h, h1]
/-- The memory of Tail. -/
def fOld (o : Nat) : AV := .func (.func 149) [] [.ptr o 0 0 3, .ptr (o + 1) 0 0 1]
def fBig (o q : Nat) : AV := .func (.func 151) [] [.ptr q 0 0 1, .ptr o 0 0 3]
def fMany (o q : Nat) : AV := .func (.func 153) [] [.ptr (q + 1) 0 0 1, .ptr o 0 0 3]
structure TailS (S0 S : AS) (q : Nat) (a b c : Int) (now : Nat) (u : AV) (B : Nat) (i : Int) : Prop where
  sub : Sub S0 S
  gP : S.h.get S0.next = some (.row [.int .i64 a, .int .i64 b, .int .i64 c] 0 0 false 30)
  gN : S.h.get (S0.next + 1) = some (.row [.int .u64 now] 0 0 false 31)
  gI : S.h.get (S0.next + 2) = some (.row [u] 0 0 false 117)
  g8 : ∃ m : Int, S.h.get q = some (.row [.int .i64 m] 0 0 false 3)
  g9 : ∃ m : Int, S.h.get (q + 1) = some (.row [.int .i64 m] 0 0 false 3)
  g10 : S.h.get (q + 2) = some (.row [fOld S0.next, fBig S0.next q, fMany S0.next q] 0 0 false 217)
  gB : S.h.get B = some (.row [.int .i64 i] 0 0 false 3)
  lo : q + 3 ≤ B
  oq : S0.next + 3 ≤ q
  lt : B < S.next
section
variable {S0 S T : AS} {q : Nat} {a b c : Int} {now : Nat} {u : AV} {B : Nat} {i : Int}
theorem TailS.to (h : TailS S0 S q a b c now u B i) (hs : Sub S T) : TailS S0 T q a b c now u B i := by
  have := h.lt
  have := h.lo
  have := h.oq
  have g : ∀ k, k < q + 3 → T.h.get k = S.h.get k := fun k hk => hs.h _ (by omega)
  exact ⟨h.sub.trans hs, by rw [g _ (by omega)]; exact h.gP, by rw [g _ (by omega)]; exact h.gN, by rw [g _ (by omega)]; exact h.gI, by rw [g _ (by omega)]; exact h.g8, by rw [g _ (by omega)]; exact h.g9, by rw [g _ (by omega)]; exact h.g10, by rw [hs.h _ h.lt]; exact h.gB, h.lo, h.oq, Nat.lt_of_lt_of_le h.lt hs.next⟩
theorem TailS.put (h : TailS S0 S q a b c now u B i) {k : Nat} (hk : k = q ∨ k = q + 1) (m : Int) : TailS S0 ⟨S.h.set k (.row [.int .i64 m] 0 0 false 3), S.next⟩ q a b c now u B i := by
  have := h.lt
  have := h.lo
  have := h.oq
  have g : ∀ j, j ≠ k → (S.h.set k (.row [.int .i64 m] 0 0 false 3)).get j = S.h.get j := fun j hj => get_set_ne _ _ hj
  have g' : ∀ j x, j ≠ k → S.h.get j = x → (⟨S.h.set k (.row [.int .i64 m] 0 0 false 3), S.next⟩ : AS).h.get j = x := fun j x hj e => (g j hj).trans e
  refine ⟨⟨fun id hid => (g id (by omega)).trans (h.sub.h id hid), h.sub.next⟩, g' _ _ (by omega) h.gP, g' _ _ (by omega) h.gN, g' _ _ (by omega) h.gI, ?_, ?_, g' _ _ (by omega) h.g10, g' _ _ (by omega) h.gB, h.lo, h.oq, h.lt⟩
  · rcases hk with rfl | rfl
    · exact ⟨m, get_set_same _ _ _⟩
    · obtain ⟨m', e⟩ := h.g8
      exact ⟨m', g' _ _ (by omega) e⟩
  · rcases hk with rfl | rfl
    · obtain ⟨m', e⟩ := h.g9
      exact ⟨m', g' _ _ (by omega) e⟩
    · exact ⟨m, get_set_same _ _ _⟩
theorem okW_undef : okW .undef = true := rfl
theorem nt149 : Tryz.f149.ntmps = 17 := by kernel_rfl
theorem old149 (h : TailS S0 S q a b c now u B i) (x : ItemG) (hu : AttsAt S x.u x.atts) : CallW C0 149 [.agg (encI x), .ptr S0.next 0 0 3, .ptr (S0.next + 1) 0 0 1] S fun r T => ∃ d : Bool, r = .bool d ∧ TailS S0 T q a b c now u B i := by
  have h1 : Sub S ⟨S.h.set S.next (.row (encI x) 0 0 false 42), S.next + 1⟩ := sub1
  have hc := hu.sl.cells
  have ht := h.to h1
  have lt := h.lt
  have lo := h.lo
  have oq := h.oq
  obtain ⟨r, T, ⟨m, rfl, hT⟩, e⟩ := (age150 x now (hu.sub h1)).ex
  have ht2 := ht.to hT
  have p1 : ¬ S0.next = S.next := by omega
  have p2 : ¬ S0.next + 1 = S.next := by omega
  have q0 := h.gP
  have q1 := h.gN
  have q2 := ht2.gP
  refine enterW (pu0 _) (pr0 _ rfl) fn149 rfl ok149 (by simp) fun F hn hs => ?_
  rw [nt149] at hn
  have s0 := hs 0
  have s1 := hs 1
  have s2 := hs 2
  clear hs
  simp only [List.getElem?_cons_zero, List.getElem?_cons_succ, Option.getD_some, encI] at s0 s1 s2 e ht
  by_cases h0 : 0 < a
  · simp [s0, s1, s2, hc, hn]
    refine draws [.p, .r 0 0, .p, .p, .r 0 0, .r 0 0, .e [], .p, .r 1 0, .p, .p, .p, .p] (n := 17) (by kernel_rfl) (by simp [hn]) ?_
    simp [s0, s1, s2, h0, p1, p2, q0, q1, q2, e, ex0, hc, ht2]
    omega
  · simp [s0, s1, s2, hc, hn]
    refine draws [.p, .r 0 0, .p, .p, .r 0 0, .r 0 0, .e [], .p, .r 1 0, .p, .p, .p, .p] (n := 17) (by kernel_rfl) (by simp [hn]) ?_
    simp [s0, s1, s2, h0, p1, p2, q0, q1, hc, ht, okW_undef]
end
end Go.Proofs.YtedonhemfhfbaaaGreat.mod

namespace Go.Proofs.YtedonhemfhfbaaaGreat.mod
open Go Go.Am
set_option linter.unusedVariables false
set_option linter.unusedSimpArgs false

section
variable {S0 S T : AS} {q : Nat} {a b c : Int} {now : Nat} {u : AV} {B : Nat} {i : Int}
theorem nt151 : Tryz.f151.ntmps = 18 := by kernel_rfl
theorem big151 (h : TailS S0 S q a b c now u B i) (x : ItemG) (hu : AttsAt S x.u x.atts) : CallW C0 151 [.agg (encI x), .ptr q 0 0 1, .ptr S0.next 0 0 3] S fun r T => ∃ d : Bool, r = .bool d ∧ TailS S0 T q a b c now u B i := by
  have h1 : Sub S ⟨S.h.set S.next (.row (encI x) 0 0 false 42), S.next + 1⟩ := sub1
  have hc := hu.sl.cells
  have ht := h.to h1
  have lt := h.lt
  have lo := h.lo
  have oq := h.oq
  obtain ⟨r, T, ⟨m, rfl, hT⟩, e⟩ := (size152 (n := x.n) (t := x.time) (key := x.key) (hu.sub h1)).ex
  have ht2 := ht.to hT
  have p1 : ¬ S0.next = S.next := by omega
  have p3 : ¬ q = S.next := by omega
  have p13 : ¬ S0.next = q := by omega
  obtain ⟨k, q3⟩ := h.g8
  have q0 := h.gP
  have q3' : T.h.get q = some (.row [.int .i64 k] 0 0 false 3) := by rw [hT.h _ (by show q < S.next + 1; omega)]; show (S.h.set _ _).get _ = _; rw [get_set_ne _ _ (by omega)]; exact q3
  have q2 := ht2.gP
  refine enterW (pu0 _) (pr0 _ rfl) fn151 rfl ok151 (by simp) fun F hn hs => ?_
  rw [nt151] at hn
  have s0 := hs 0
  have s1 := hs 1
  have s2 := hs 2
  clear hs
  simp only [List.getElem?_cons_zero, List.getElem?_cons_succ, Option.getD_some, encI] at s0 s1 s2 e ht
  have ht3 := ht2.put (.inl rfl) (IntKind.i64.wrap (k + m))
  by_cases h0 : 0 < b
  · simp [s0, s1, s2, hc, hn]
    refine draws [.r 0 1, .r 0 0, .e [], .p, .e []] (n := 18) (by kernel_rfl) (by simp [hn]) ?_
    simp [s0, s1, s2, h0, p1, p3, p13, q0, q2, q3, q3', e, ex0, hc, ht3]
    omega
  · simp [s0, s1, s2, hc, hn]
    refine draws [.r 0 1, .r 0 0, .e [], .p, .e []] (n := 18) (by kernel_rfl) (by simp [hn]) ?_
    simp [s0, s1, s2, h0, p1, p3, p13, q0, q2, q3, q3', e, ex0, hc, ht3]
theorem many153 (h : TailS S0 S q a b c now u B i) (x : ItemG) (hu : AttsAt S x.u x.atts) : CallW C0 153 [.agg (encI x), .ptr (q + 1) 0 0 1, .ptr S0.next 0 0 3] S fun r T => ∃ d : Bool, r = .bool d ∧ TailS S0 T q a b c now u B i := by
  have h1 : Sub S ⟨S.h.set S.next (.row (encI x) 0 0 false 42), S.next + 1⟩ := sub1
  have hc := hu.sl.cells
  have ht := h.to h1
  have lt := h.lt
  have lo := h.lo
  have oq := h.oq
  have p1 : ¬ S0.next = S.next := by omega
  have p3 : ¬ q + 1 = S.next := by omega
  have p13 : ¬ S0.next = q + 1 := by omega
  obtain ⟨k, q3⟩ := h.g9
  have q0 := h.gP
  refine enterW (pu0 _) (pr0 _ rfl) fn153 rfl ok153 (by simp) fun F hn hs => ?_
  have s0 := hs 0
  have s1 := hs 1
  have s2 := hs 2
  clear hs
  simp only [List.getElem?_cons_zero, List.getElem?_cons_succ, Option.getD_some, encI] at s0 s1 s2 ht
  have ht3 := ht.put (.inr rfl) (IntKind.i64.wrap (k + 1))
  by_cases h0 : 0 < c
  · simp [s0, s1, s2, hc, h0, p1, p3, p13, q0, q3, ht3]
    omega
  · simp [s0, s1, s2, hc, h0, p1, p3, p13, q0, q3, ht3]

/-! ### IndexFunc over functions that change memory -/
def ixfH {α : Type} (I : AS → Prop) (u g : AV) (l : List α) (k : Nat) (F' : Fr) (S' : AS) : Prop :=
  ∃ i : Nat, I S' ∧ sl F' 0 = u ∧ sl F' 1 = g ∧ sl F' 7 = .int .i64 l.length ∧ sl F' 8 = .int .i64 i ∧ i ≤ l.length ∧ k = l.length - i
theorem ixfH_mk {α : Type} {I : AS → Prop} {u g : AV} {l : List α} {k : Nat} {F' : Fr} {S' : AS} (i : Nat) (h1 : I S') (h2 : sl F' 0 = u) (h3 : sl F' 1 = g) (h4 : sl F' 7 = .int .i64 l.length) (h5 : sl F' 8 = .int .i64 i) (h6 : i ≤ l.length) (h7 : k = l.length - i) : ixfH I u g l k F' S' :=
  ⟨i, h1, h2, h3, h4, h5, h6, h7⟩
theorem ixf188 {S : AS} {u : AV} {l : List AV} {I : AS → Prop} {f : FuncId} {caps : List AV} (hI : I S) (h : ∀ S', I S' → Sl S' u 1 l) (hb : l.length ≤ 9223372036854775807) (hf : (f == 228) = false)
    (hc : ∀ T, I T → ∀ x, x ∈ l → CallW C0 f (x :: caps) T fun v T' => ∃ d : Bool, v = .bool d ∧ I T') :
    CallW C0 188 [u, .func (.func f) [] caps] S fun v T => ∃ m : Int, v = .int .i64 m ∧ I T := by
  refine enterW (pu0 _) (pr0 _ rfl) fn188 rfl ok188 (by simp) fun F hn hs => ?_
  have s0 := hs 0
  have s1 := hs 1
  clear hs
  simp only [List.getElem?_cons_zero, List.getElem?_cons_succ, Option.getD_some] at s0 s1
  have u1 := (h S hI).sl
  have u2 : sLen u = l.length := (h S hI).len1
  simp [s0, s1, u1, u2]
  refine loopP_of (ixfH I u (.func (.func f) [] caps) l) l.length (ixfH_mk 0 hI (by simp [s0]) (by simp [s1]) (by simp) (by simp) (Nat.zero_le _) rfl) ?_
  rintro k F' S' hn' ⟨i, hsub, t0, t1, t7, t8, hi, hk⟩
  clear hn' s0 s1 hn
  by_cases hi' : i < l.length
  · have hx : l[i]? = some l[i] := List.getElem?_eq_getElem hi'
    have hl := loadT_sl (cx := C0) (e := 215) (h S' hsub) hx ag215
    obtain ⟨v, T', ⟨d, rfl, hs⟩, e⟩ := (hc S' hsub l[i] (List.getElem_mem hi')).ex
    cases d with
    | true => simp [t0, t1, t7, t8, u1, u2, hi', hl, e, ex0 f hf, hs]
    | false =>
      simp [t0, t1, t7, t8, u1, u2, hi', hl, e, ex0 f hf]
      exact ⟨l.length - (i + 1), by omega, ixfH_mk (i + 1) hs (by simp [t0]) (by simp [t1]) (by simp [t7]) (by simp [wrap_succ (show i < 9223372036854775807 by omega)]) hi' rfl⟩
  · simp [t7, t8, hi', hsub]
theorem cof154 {S : AS} {u : AV} {l : List AV} {I : AS → Prop} {f : FuncId} {caps : List AV} (hI : I S) (h : ∀ S', I S' → Sl S' u 1 l) (hb : l.length ≤ 9223372036854775807) (hf : (f == 228) = false)
    (hc : ∀ T, I T → ∀ x, x ∈ l → CallW C0 f (x :: caps) T fun v T' => ∃ d : Bool, v = .bool d ∧ I T') :
    CallW C0 154 [u, .func (.func f) [] caps] S fun v T => ∃ d : Bool, v = .bool d ∧ I T := by
  obtain ⟨v, T, ⟨m, rfl, hs⟩, e⟩ := (ixf188 hI h hb hf hc).ex
  refine enterW (pu0 _) (pr0 _ rfl) fn154 rfl ok154 (by simp) fun F hn hs => ?_
  have s0 := hs 0
  have s1 := hs 1
  clear hs
  simp only [List.getElem?_cons_zero, List.getElem?_cons_succ, Option.getD_some] at s0 s1
  simp [s0, s1, e, ex0, hs]
  omega
theorem TailS.fresh (h : TailS S0 S q a b c now u B i) (j : Int) (o o' : AObj) : TailS S0 ⟨((S.h.set S.next o).set S.next o').set S.next (.row [.int .i64 j] 0 0 false 3), S.next + 1⟩ q a b c now u S.next j := by
  have lt := h.lt
  have lo := h.lo
  have oq := h.oq
  have h2 := h.to (T := ⟨((S.h.set S.next o).set S.next o').set S.next (.row [.int .i64 j] 0 0 false 3), S.next + 1⟩) (sub1s.set _ _ (Nat.le_refl _) _ (Nat.le_refl _))
  exact ⟨h2.sub, h2.gP, h2.gN, h2.gI, h2.g8, h2.g9, h2.g10, get_set_same _ _ _, by omega, oq, Nat.lt_succ_self _⟩
theorem one155 {l : List ItemG} {k : Nat} {x : ItemG} {v : AV} (hx : ItemsAt S0 u l) (hk : l[k]? = some x) (h : TailS S0 S q a b c now u B k) (hv : v ∈ [fOld S0.next, fBig S0.next q, fMany S0.next q]) :
    CallW C0 155 [v, .ptr (S0.next + 2) 0 0 1, .ptr B 0 0 1] S fun r T => ∃ d : Bool, r = .bool d ∧ TailS S0 T q a b c now u B k := by
  have hxS := hx.sub h.sub
  have ha := hxS.att x (List.mem_of_getElem? hk)
  have u1 := hxS.sl.sl
  have u2 := hxS.sl.len_flat encI_len (by omega)
  have hlo := loadT_el (cx := C0) (e := 42) hxS.sl encI_len (by omega) hk ag42 sz42
  have hkl := (List.getElem?_eq_some_iff.1 hk).1
  have gI := h.gI
  have gB := h.gB
  have uk := okW_sl hxS.sl
  have key : ∃ f caps, v = .func (.func f) [] caps ∧ (f == 228) = false ∧ CallW C0 f (.agg (encI x) :: caps) S fun r T => ∃ d : Bool, r = .bool d ∧ TailS S0 T q a b c now u B k := by
    simp only [List.mem_cons, List.not_mem_nil, or_false] at hv
    rcases hv with rfl | rfl | rfl
    · exact ⟨_, _, rfl, rfl, old149 h x ha⟩
    · exact ⟨_, _, rfl, rfl, big151 h x ha⟩
    · exact ⟨_, _, rfl, rfl, many153 h x ha⟩
  obtain ⟨f, caps, rfl, hf, hw⟩ := key
  obtain ⟨r, T, ⟨d, rfl, hT⟩, e⟩ := hw.ex
  refine enterW (pu0 _) (pr0 _ rfl) fn155 rfl ok155 (by simp) fun F hn hs => ?_
  have s0 := hs 0
  have s1 := hs 1
  have s2 := hs 2
  clear hs
  simp only [List.getElem?_cons_zero, List.getElem?_cons_succ, Option.getD_some] at s0 s1 s2
  simp [s0, s1, s2, gI, gB, u1, u2, hkl, hlo, e, ex0 f hf, uk, hT]
theorem any154 {l : List ItemG} {k : Nat} {x : ItemG} (hx : ItemsAt S0 u l) (hk : l[k]? = some x) (h : TailS S0 S q a b c now u B k) :
    CallW C0 154 [.slice (q + 2) 0 0 3 3 1 (some 3), .func (.func 155) [] [.ptr (S0.next + 2) 0 0 1, .ptr B 0 0 1]] S fun r T => ∃ d : Bool, r = .bool d ∧ TailS S0 T q a b c now u B k := by
  refine cof154 (l := [fOld S0.next, fBig S0.next q, fMany S0.next q]) (I := fun T => TailS S0 T q a b c now u B k) h (fun S' h' => ?_) (by simp) rfl (fun T hT v hv => one155 hx hk hT hv)
  have lt := h'.lt
  have lo := h'.lo
  have oq := h'.oq
  exact ⟨by simp [isSl, capB], by simp [rdS, rd_at, h'.g10, rdO_row], by simp [sLen], by simp only [bnd]; omega⟩
end
end Go.Proofs.YtedonhemfhfbaaaGreat.mod

namespace Go.Proofs.YtedonhemfhfbaaaGreat.mod
open Go Go.Am
set_option linter.unusedVariables false
set_option linter.unusedSimpArgs false

theorem bld217 (o q : Nat) : buildA C0 217 [(0, .func (.func 149) [] [.ptr o 0 0 3, .ptr (o + 1) 0 0 1]), (1, .func (.func 151) [] [.ptr q 0 0 1, .ptr o 0 0 3]), (2, .func (.func 153) [] [.ptr (q + 1) 0 0 1, .ptr o 0 0 3])] = some (.agg [fOld o, fBig o q, fMany o q]) := by kernel_rfl
theorem i64_pred {n : Nat} (h : n < 9223372036854775807) : IntKind.i64.wrap ((n : Int) - 1) = (n : Int) - 1 := IntWalk.i64_in _ (by omega)
theorem arr217 {F : Fr} (b : Nat) : sliceV C0 F 217 (.ptr b 0 0 3) none none none = some (.slice b 0 0 3 3 1 (some 3)) := by kernel_rfl
def tailH (S0 : AS) (q : Nat) (a b c : Int) (now : Nat) (u : AV) (len k : Nat) (F' : Fr) (S' : AS) : Prop :=
  ∃ (B : Nat) (j : Nat), TailS S0 S' q a b c now u B ((j : Int) - 1) ∧ sl F' 5 = .ptr (S0.next + 2) 0 0 1 ∧ sl F' 10 = .ptr (q + 2) 0 0 3 ∧ sl F' 11 = .ptr B 0 0 1 ∧ j ≤ len ∧ k = j
theorem tailH_mk {S0 : AS} {q : Nat} {a b c : Int} {now : Nat} {u : AV} {len k : Nat} {F' : Fr} {S' : AS} {B j : Nat} (h1 : TailS S0 S' q a b c now u B ((j : Int) - 1)) (h2 : sl F' 5 = .ptr (S0.next + 2) 0 0 1) (h3 : sl F' 10 = .ptr (q + 2) 0 0 3) (h4 : sl F' 11 = .ptr B 0 0 1) (h5 : j ≤ len) (h6 : k = j) : tailH S0 q a b c now u len k F' S' := ⟨B, j, h1, h2, h3, h4, h5, h6⟩
theorem nt123 : Tryz.f123.ntmps = 32 := by kernel_rfl
set_option maxRecDepth 20000 in
theorem tail123 {S : AS} {u : AV} {l : List ItemG} (a b c : Int) (now : Nat) (hx : ItemsAt S u l) :
    CallW C0 123 [.agg [.int .i64 a, .int .i64 b, .int .i64 c], .int .u64 now, u] S fun r T => ∃ (i : Nat) (e : Int), r = .tuple [.int .i64 i, .int .i64 e] ∧ i ≤ l.length ∧ Sub S T := by
  have h3 : Sub S ⟨((S.h.set S.next (.row [.int .i64 a, .int .i64 b, .int .i64 c] 0 0 false 30)).set (S.next + 1) (.row [.int .u64 now] 0 0 false 31)).set (S.next + 2) (.row [u] 0 0 false 117), S.next + 3⟩ := sub2.set _ _ (by omega) _ (Nat.le_succ _)
  obtain ⟨r, T, ⟨rfl, hT⟩, e1⟩ := (may64 (S := ⟨((S.h.set S.next (.row [.int .i64 a, .int .i64 b, .int .i64 c] 0 0 false 30)).set (S.next + 1) (.row [.int .u64 now] 0 0 false 31)).set (S.next + 2) (.row [u] 0 0 false 117), S.next + 3⟩) a b c).ex
  have hS := h3.trans hT
  have hold := hx.sl.old
  have uc := hx.sl.cells
  have u1 := hx.sl.sl
  have u2 := hx.sl.len_flat encI_len (by omega)
  have uk := okW_sl hx.sl
  have hle := hx.le
  have hTn : S.next + 3 ≤ T.next := hT.next
  have gP : T.h.get S.next = some (.row [.int .i64 a, .int .i64 b, .int .i64 c] 0 0 false 30) := by
    rw [hT.h _ (by show S.next < S.next + 3; omega)]
    simp only [get_set_ne _ _ (show S.next ≠ S.next + 1 by omega), get_set_ne _ _ (show S.next ≠ S.next + 2 by omega), get_set_same]
  have gN : T.h.get (S.next + 1) = some (.row [.int .u64 now] 0 0 false 31) := by
    rw [hT.h _ (by show S.next + 1 < S.next + 3; omega)]
    simp only [get_set_ne _ _ (show S.next + 1 ≠ S.next + 2 by omega), get_set_same]
  have gI : T.h.get (S.next + 2) = some (.row [u] 0 0 false 117) := by
    rw [hT.h _ (by show S.next + 2 < S.next + 3; omega)]
    exact get_set_same _ _ _
  refine enterW (pu0 _) (pr0 _ rfl) fn123 rfl ok123 (by simp) fun F hn hs => ?_
  rw [nt123] at hn
  have s0 := hs 0
  have s1 := hs 1
  have s2 := hs 2
  clear hs
  simp only [List.getElem?_cons_zero, List.getElem?_cons_succ, Option.getD_some] at s0 s1 s2
  cases hp : polB a b c with
  | false =>
    rw [hp] at e1
    simp [s0, s1, s2, uc, uk, e1, ex0]
    exact ⟨0, rfl, Nat.zero_le _, hS⟩
  | true =>
    rw [hp] at e1
    have n0 : ¬ S.next + 2 = T.next := by omega
    have n1 : ¬ S.next + 1 = T.next := by omega
    have n2 : ¬ S.next = T.next := by omega
    simp [s0, s1, s2, uc, uk, e1, ex0, bld217, gI, u1, u2, n0, n1, n2]
    refine loopP_of (tailH S T.next a b c now u l.length) l.length (tailH_mk (B := T.next + 3) (j := l.length) ?_ (by simp) (by simp) (by simp) (Nat.le_refl _) rfl) ?_
    · rw [i64_pred (n := l.length) (by omega)]
      have g' : ∀ (j : Nat) (o1 o2 o3 o4 o5 o6 o7 o8 : AObj), j < T.next → ((((((((T.h.set T.next o1).set (T.next + 1) o2).set T.next o3).set (T.next + 1) o4).set (T.next + 2) o5).set (T.next + 2) o6).set (T.next + 1 + 2) o7).set (T.next + 1 + 2) o8).get j = T.h.get j := fun j o1 o2 o3 o4 o5 o6 o7 o8 hj => by
        simp only [get_set_ne _ _ (show j ≠ T.next by omega), get_set_ne _ _ (show j ≠ T.next + 1 by omega), get_set_ne _ _ (show j ≠ T.next + 2 by omega), get_set_ne _ _ (show j ≠ T.next + 1 + 2 by omega)]
      refine ⟨⟨fun id hid => (g' _ _ _ _ _ _ _ _ _ (by omega)).trans (hS.h id hid), by show S.next ≤ T.next + 2 + 2; omega⟩, (g' _ _ _ _ _ _ _ _ _ (by omega)).trans gP, (g' _ _ _ _ _ _ _ _ _ (by omega)).trans gN, (g' _ _ _ _ _ _ _ _ _ (by omega)).trans gI, ⟨0, ?_⟩, ⟨0, ?_⟩, ?_, get_set_same _ _ _, Nat.le_refl _, hTn, by show T.next + 3 < T.next + 2 + 2; omega⟩
      · simp only [get_set_ne _ _ (show T.next ≠ T.next + 1 by omega), get_set_ne _ _ (show T.next ≠ T.next + 2 by omega), get_set_ne _ _ (show T.next ≠ T.next + 1 + 2 by omega), get_set_same]
      · simp only [get_set_ne _ _ (show T.next + 1 ≠ T.next + 2 by omega), get_set_ne _ _ (show T.next + 1 ≠ T.next + 1 + 2 by omega), get_set_same]
      · simp only [get_set_ne _ _ (show T.next + 2 ≠ T.next + 1 + 2 by omega), get_set_same]
    · rintro k F' S' hn' ⟨B, j, hT', t5, t10, t11, hj, hk⟩
      clear hn' s0 s1 s2 hn
      have gB := hT'.gB
      have lo := hT'.lo
      have oq := hT'.oq
      have lt := hT'.lt
      have hxS := hx.sub hT'.sub
      by_cases h0 : (0 : Int) ≤ (j : Int) - 1
      · obtain ⟨i, rfl⟩ : ∃ i, j = i + 1 := ⟨j - 1, by omega⟩
        have hki : l[i]? = some l[i] := List.getElem?_eq_getElem (by omega)
        have hii : ((i + 1 : Nat) : Int) - 1 = i := by omega
        rw [hii] at hT' gB h0
        obtain ⟨r, V, ⟨d, rfl, hV⟩, e2⟩ := (any154 hx hki hT').ex
        have gV := hV.gB
        cases d with
        | true =>
          simp [t5, t10, t11, gB, h0, e2, ex0, gV, arr217, wrap_succ (i := i) (by omega)]
          exact ⟨i + 1, by simp, by omega, hV.sub⟩
        | false =>
          simp [t5, t10, t11, gB, h0, e2, ex0, gV, arr217]
          exact ⟨i, by omega, tailH_mk (B := V.next) (j := i) (by rw [i64_pred (by omega)]; exact hV.fresh _ _ _) (by simp [t5]) (by simp [t10]) (by simp) (by omega) rfl⟩
      · obtain rfl : j = 0 := by omega
        simp [t5, t10, t11, gB]
        exact ⟨0, rfl, Nat.zero_le _, hT'.sub⟩
theorem low67 {S : AS} {u : AV} {l : List ItemG} (a b c : Int) (now : Nat) (hx : ItemsAt S u l) :
    CallW C0 67 [.agg [.int .i64 a, .int .i64 b, .int .i64 c], .int .u64 now, u] S fun r T => ∃ (low : Nat) (e : Int), r = .tuple [.int .u64 low, .int .i64 e] ∧ Sub S T := by
  have h1 : Sub S ⟨S.h.set S.next (.row [.int .i64 a, .int .i64 b, .int .i64 c] 0 0 false 30), S.next + 1⟩ := sub1
  obtain ⟨r, T, ⟨i, e, rfl, hi, hT⟩, e1⟩ := (tail123 a b c now (hx.sub h1)).ex
  have hS := h1.trans hT
  have hxT := hx.sub hS
  have uc := hx.sl.cells
  have u1 := hx.sl.sl
  have u2 := hx.sl.len_flat encI_len (by omega)
  have uk := okW_sl hx.sl
  have hle := hx.le
  refine enterW (pu0 _) (pr0 _ rfl) fn67 rfl ok67 (by simp) fun F hn hs => ?_
  have s0 := hs 0
  have s1 := hs 1
  have s2 := hs 2
  clear hs
  simp only [List.getElem?_cons_zero, List.getElem?_cons_succ, Option.getD_some] at s0 s1 s2
  by_cases he : e = 0
  · subst he
    by_cases hl : l.length = 0
    · simp [s0, s1, s2, uc, uk, e1, ex0, u1, u2, hl, hS]
      exact ⟨0, rfl⟩
    · by_cases hie : (i : Int) = l.length
      · have hw : IntKind.i64.wrap ((l.length : Int) - 1) = ((l.length - 1 : Nat) : Int) := by rw [i64_pred (by omega)]; omega
        have hk : l[l.length - 1]? = some (l[l.length - 1]'(by omega)) := List.getElem?_eq_getElem _
        generalize l[l.length - 1]'(by omega) = x at hk
        have hpp := isP_pAt (k := l.length - 1) u1 (by rw [u2]; omega)
        have hlp := loadT_elf (cx := C0) (e := 31) (o := 0) (y := .int .u64 x.n) hxT.sl encI_len (by omega) hk rfl ag31
        have q1 : l.length - 1 < l.length := by omega
        simp [s0, s1, s2, uc, uk, e1, ex0, u1, u2, hl, hie, hw, q1, fieldP_add hpp, hlp, hS]
        obtain ⟨m, hm⟩ : ∃ m : Nat, IntKind.u64.wrap ((x.n : Int) + 1) = m := ⟨_, (Int.toNat_of_nonneg (u64_wrap _).1).symm⟩
        exact ⟨m, hm⟩
      · have q1 : i < l.length := by omega
        have hk : l[i]? = some (l[i]'q1) := List.getElem?_eq_getElem _
        generalize l[i]'q1 = x at hk
        have hpp := isP_pAt (k := i) u1 (by rw [u2]; omega)
        have hlp := loadT_elf (cx := C0) (e := 31) (o := 0) (y := .int .u64 x.n) hxT.sl encI_len (by omega) hk rfl ag31
        have hie' : ¬ i = l.length := by omega
        simp [s0, s1, s2, uc, uk, e1, ex0, u1, u2, hl, hie, hie', q1, fieldP_add hpp, hlp, hS]
        exact ⟨x.n, rfl⟩
  · simp [s0, s1, s2, uc, uk, e1, ex0, he, hS]
    exact ⟨0, rfl⟩
end Go.Proofs.YtedonhemfhfbaaaGreat.mod

namespace Go.Proofs.YtedonhemfhfbaaaGreat.mod
open Go Go.Am
set_option linter.unusedVariables false
set_option linter.unusedSimpArgs false

/-! ### Retain's rule -/
theorem rule68 {S : AS} {B low : Nat} (h : S.h.get B = some (.row [.int .u64 low] 0 0 false 31)) (n : Nat) : CallW C0 68 [.int .u64 n, .ptr B 0 0 1] S fun r T => r = .bool (decide (n < low)) ∧ T = S := by
  refine enterW (pu0 _) (pr0 _ rfl) fn68 rfl ok68 (by simp) fun F hn hs => ?_
  have s0 := hs 0
  have s1 := hs 1
  clear hs
  simp only [List.getElem?_cons_zero, List.getElem?_cons_succ, Option.getD_some] at s0 s1
  by_cases hlt : n < low
  · simp [s0, s1, h, hlt]
  · simp [s0, s1, h, hlt]
/-- A rule that lets go by number: which, in memory that is as it was. -/
def RuleAt (lo : Nat) (S : AS) (g : AV) (P : Nat → Bool) : Prop :=
  ∃ f caps, g = .func (.func f) [] caps ∧ (f == 228) = false ∧ okW g = true ∧ cellsOf g = some [g] ∧ isPanB g = false ∧ ∀ T, (∀ id, lo ≤ id → id < S.next → T.h.get id = S.h.get id) → S.next ≤ T.next → ∀ n : Nat, CallW C0 f (.int .u64 n :: caps) T fun r V => r = .bool (P n) ∧ Sub T V
theorem which66 {S : AS} {B N : Nat} {a b c : Int} {now : Nat} {u : AV} {l : List ItemG} (hB : S.h.get B = some (.row [.int .i64 a, .int .i64 b, .int .i64 c] 0 0 false 30)) (hN : S.h.get N = some (.row [.int .u64 now] 0 0 false 31)) (hx : ItemsAt S u l) :
    CallW C0 66 [u, .ptr B 0 0 3, .ptr N 0 0 1] S fun r T => (∃ P, RuleAt S.next T r P) ∧ Sub S T := by
  obtain ⟨r, T, ⟨low, e, rfl, hT⟩, e1⟩ := (low67 a b c now hx).ex
  have uc := hx.sl.cells
  have uk := okW_sl hx.sl
  refine enterW (pu0 _) (pr0 _ rfl) fn66 rfl ok66 (by simp) fun F hn hs => ?_
  have s0 := hs 0
  have s1 := hs 1
  have s2 := hs 2
  clear hs
  simp only [List.getElem?_cons_zero, List.getElem?_cons_succ, Option.getD_some] at s0 s1 s2
  have hfin : Sub S ⟨(T.h.set T.next (.row [.int .u64 0] 0 0 false 31)).set T.next (.row [.int .u64 low] 0 0 false 31), T.next + 1⟩ := hT.trans sub1s
  simp [s0, s1, s2, uc, uk, hB, hN, e1, ex0, hfin]
  refine ⟨fun n => decide (n < low), 68, [.ptr T.next 0 0 1], rfl, rfl, by kernel_rfl, by kernel_rfl, rfl, fun V hV _ n => ?_⟩
  have hg : V.h.get T.next = some (.row [.int .u64 low] 0 0 false 31) := by rw [hV _ hT.next (Nat.lt_succ_self _)]; exact get_set_same _ _ _
  obtain ⟨r, W, ⟨rfl, rfl⟩, e2⟩ := (rule68 hg n).ex
  rw [e2]
  exact ⟨rfl, Sub.refl _⟩
end Go.Proofs.YtedonhemfhfbaaaGreat.mod

namespace Go.Proofs.YtedonhemfhfbaaaGreat.mod
open Go Go.Am
set_option linter.unusedVariables false
set_option linter.unusedSimpArgs false

def itemOf (i : Nat) (k : Kept) : ItemG := ⟨i + 1, k.time, k.key, k.u, k.atts⟩
def itemsUp (L : List Kept) : Nat → List ItemG
  | 0 => []
  | i + 1 => itemsUp L i ++ (match L[i]? with | some k => if k.state = 1 then [] else [itemOf i k] | none => [])
theorem itemsUp_len (L : List Kept) (i : Nat) : (itemsUp L i).length ≤ i := by
  induction i with
  | zero => simp [itemsUp]
  | succ i ih =>
    rw [itemsUp, List.length_append]
    have : (match L[i]? with | some k => if k.state = 1 then [] else [itemOf i k] | none => []).length ≤ 1 := by
      split
      · split <;> simp
      · simp
    omega
theorem itemsUp_mem {L : List Kept} {i : Nat} {x : ItemG} (h : x ∈ itemsUp L i) : ∃ j k, j < i ∧ L[j]? = some k ∧ x = itemOf j k ∧ k.state ≠ 1 := by
  induction i with
  | zero => cases h
  | succ i ih =>
    rw [itemsUp] at h
    rcases List.mem_append.1 h with h | h
    · obtain ⟨j, k, h1, h2⟩ := ih h
      exact ⟨j, k, by omega, h2⟩
    · split at h
      · rename_i k hk
        split at h
        · cases h
        · rename_i hs
          simp at h
          exact ⟨i, k, by omega, hk, h, hs⟩
      · cases h
theorem itemsUp_step {L : List Kept} {i : Nat} {k : Kept} (hk : L[i]? = some k) : itemsUp L (i + 1) = if k.state = 1 then itemsUp L i else itemsUp L i ++ [itemOf i k] := by
  rw [itemsUp, hk]
  simp only
  split <;> simp
def doubtUp (L : List Kept) (i : Nat) : Bool := (L.take i).any fun k => decide (k.state = 2)
theorem doubtUp_step {L : List Kept} {i : Nat} {k : Kept} (hk : L[i]? = some k) : doubtUp L (i + 1) = (doubtUp L i || decide (k.state = 2)) := by
  obtain ⟨hi, rfl⟩ := List.getElem?_eq_some_iff.1 hk
  unfold doubtUp
  rw [List.take_succ_eq_append_getElem hi, List.any_append]
  simp
/-- The first round of goes. -/
def goH (S : AS) (h : Nat) (g w : AV) (L : List Kept) (dur k : Nat) (F' : Fr) (S' : AS) : Prop :=
  ∃ (i : Nat) (u : AV), Sub S S' ∧ Gw S' u 4 42 ((itemsUp L i).flatMap encI) ∧ (bnd u = 0 ∨ S.next < bnd u) ∧ sl F' 0 = .ptr h 0 0 3 ∧ sl F' 1 = g ∧ sl F' 6 = u ∧ sl F' 7 = .bool (doubtUp L i) ∧ sl F' 8 = .int .i64 (itemsUp L i).length ∧ sl F' 23 = w ∧ sl F' 24 = .int .i64 dur ∧ sl F' 25 = .int .i64 i ∧ i ≤ dur ∧ k = dur - i
theorem goH_mk {S : AS} {h : Nat} {g w : AV} {L : List Kept} {dur k : Nat} {F' : Fr} {S' : AS} (i : Nat) (u : AV) (h1 : Sub S S') (h2 : Gw S' u 4 42 ((itemsUp L i).flatMap encI)) (h2b : bnd u = 0 ∨ S.next < bnd u) (h3 : sl F' 0 = .ptr h 0 0 3) (h4 : sl F' 1 = g) (h5 : sl F' 6 = u) (h6 : sl F' 7 = .bool (doubtUp L i)) (h7 : sl F' 8 = .int .i64 (itemsUp L i).length)
    (h8 : sl F' 23 = w) (h9 : sl F' 24 = .int .i64 dur) (h10 : sl F' 25 = .int .i64 i) (h11 : i ≤ dur) (h12 : k = dur - i) : goH S h g w L dur k F' S' := ⟨i, u, h1, h2, h2b, h3, h4, h5, h6, h7, h8, h9, h10, h11, h12⟩
/-- One more item behind the others. -/
theorem add_item {S' : AS} {u : AV} {L : List Kept} {i : Nat} {k : Kept} {lo : Nat} (hg : Gw S' u 4 42 ((itemsUp L i).flatMap encI)) (hk : L[i]? = some k) (hs : k.state ≠ 1) (hi : i ≤ 1048576) (hb : bnd u = 0 ∨ lo < bnd u) (hlo : lo ≤ S'.next) :
    ∃ u' T, builtinV C0 ⟨S'.h.set S'.next (.row [.int .u64 ((i : Int) + 1), .int .u64 k.time, .str k.key, k.u] 0 0 false 42), S'.next + 1⟩ .append [117, 117] [u, .slice S'.next 0 0 1 4 4 (some 1)] = .val u' T ∧ Gw T u' 4 42 ((itemsUp L (i + 1)).flatMap encI) ∧
      (∀ id, id < lo → T.h.get id = S'.h.get id) ∧ S'.next ≤ T.next ∧ (bnd u' = 0 ∨ lo < bnd u') ∧ cellsOf u' = some [u'] := by
  have hold := hg.1.old
  have hx : Sl (⟨S'.h.set S'.next (.row [.int .u64 ((i : Int) + 1), .int .u64 k.time, .str k.key, k.u] 0 0 false 42), S'.next + 1⟩ : AS) (.slice S'.next 0 0 1 4 4 (some 1)) 4 [.int .u64 ((i : Int) + 1), .int .u64 k.time, .str k.key, k.u] :=
    ⟨by simp [isSl, capB], by simp [rdS, rd_at], by simp [sLen], by simp [bnd]⟩
  have hgT : Gw (⟨S'.h.set S'.next (.row [.int .u64 ((i : Int) + 1), .int .u64 k.time, .str k.key, k.u] 0 0 false 42), S'.next + 1⟩ : AS) u 4 42 ((itemsUp L i).flatMap encI) := hg.agree (fun id e => get_set_ne _ _ (by omega)) (Nat.le_succ _)
  have hlen : sLen u = (itemsUp L i).length := hg.1.len_flat encI_len (by omega)
  have hle := itemsUp_len L i
  obtain ⟨u', V, e2, r1, r2, r3, r4, r5, r6, r7⟩ := append_gw (ts := []) (u := 117) (p := (42, 4, 56)) st117 un117 rfl hgT hx (by rw [hlen]; simp [fits, nble, sLen_slice]; omega)
  simp only at r1
  have hs2 : ((itemsUp L i).flatMap encI ++ [.int .u64 ((i : Int) + 1), .int .u64 k.time, .str k.key, k.u]) = (itemsUp L (i + 1)).flatMap encI := by
    rw [itemsUp_step hk, if_neg hs, List.flatMap_append]
    simp [encI, itemOf]
  rw [hs2] at r1
  refine ⟨u', V, e2, r1, fun id hid => ?_, by have : S'.next + 1 ≤ V.next := r3; omega, ?_, r1.1.cells⟩
  · rw [r2 id (by show id < S'.next + 1; omega) (by omega)]
    exact get_set_ne _ _ (by omega)
  · rcases r6 with r6 | r6
    · rw [r6]; exact hb
    · right
      have : S'.next + 1 < bnd u' := r6
      omega
end Go.Proofs.YtedonhemfhfbaaaGreat.mod

namespace Go.Proofs.YtedonhemfhfbaaaGreat.mod
open Go Go.Am
set_option linter.unusedVariables false
set_option linter.unusedSimpArgs false

/-! ### Doubt -/
def doubtL (L : List Kept) : Nat → List Kept
  | 0 => L
  | n + 1 => match (doubtL L n)[n]? with | some k => if k.state = 0 then setState (doubtL L n) n 2 else doubtL L n | none => doubtL L n
theorem doubtL_len (L : List Kept) (n : Nat) : (doubtL L n).length = L.length := by
  induction n with
  | zero => rfl
  | succ n ih =>
    rw [doubtL]
    split
    · split
      · rw [setState_len, ih]
      · exact ih
    · exact ih
theorem doubtL_get (L : List Kept) (n i : Nat) : (doubtL L n)[i]? = (L[i]?).map fun k => if i < n ∧ k.state = 0 then { k with state := 2 } else k := by
  induction n with
  | zero =>
    rw [doubtL]
    cases L[i]? <;> simp
  | succ n ih =>
    have hrest : ∀ M : List Kept, M = doubtL L n → (i = n → ∀ k, L[n]? = some k → k.state ≠ 0) → M[i]? = (L[i]?).map fun k => if i < n + 1 ∧ k.state = 0 then { k with state := 2 } else k := by
      rintro M rfl hM
      rw [ih]
      cases hL : L[i]? with
      | none => rfl
      | some k =>
        simp only [Option.map_some, Option.some.injEq]
        by_cases hi : i = n
        · subst hi
          have := hM rfl k hL
          simp [this]
        · by_cases h2 : i < n
          · have h3 : i < n + 1 := by omega
            simp [h2, h3]
          · have h3 : ¬ i < n + 1 := by omega
            simp [h2, h3]
    rw [doubtL]
    split
    · rename_i k hk
      split
      · rename_i hs
        rw [setState_get, ih]
        cases hL : L[i]? with
        | none => rfl
        | some k2 =>
          simp only [Option.map_some, Option.some.injEq]
          by_cases hi : i = n
          · subst hi
            rw [ih, hL] at hk
            simp at hk
            subst hk
            have h0 : k2.state = 0 := hs
            have h1 : i < i + 1 := by omega
            simp [h0]
          · by_cases h2 : i < n
            · have h3 : i < n + 1 := by omega
              simp [h2, h3, hi]
            · have h3 : ¬ i < n + 1 := by omega
              simp [h2, h3, hi]
      · rename_i hs
        refine hrest _ rfl fun hi k2 hk2 => ?_
        subst hi
        rw [ih, hk2] at hk
        simp at hk
        subst hk
        exact hs
    · rename_i hk
      refine hrest _ rfl fun hi k2 hk2 => ?_
      subst hi
      rw [ih, hk2] at hk
      cases hk
theorem doubtL_step {L : List Kept} {n : Nat} {k : Kept} (hk : (doubtL L n)[n]? = some k) : doubtL L (n + 1) = if k.state = 0 then setState (doubtL L n) n 2 else doubtL L n := by
  rw [doubtL, hk]
section
variable {S : AS} {h : Nat} {v : AV} {L : List Kept} {dur : Nat}
def dbtH (S : AS) (h : Nat) (v w : AV) (L : List Kept) (dur n k : Nat) (F' : Fr) (S' : AS) : Prop :=
  ∃ i : Nat, Keep (fun id => bnd v = id + 1) S S' ∧ HistAt S' h v (doubtL L i) dur ∧ S'.next = S.next ∧ sl F' 0 = .ptr h 0 0 3 ∧ sl F' 11 = .int .i64 n ∧ sl F' 12 = .int .i64 i ∧ i ≤ n ∧ k = n - i
theorem dbtH_mk {S : AS} {h : Nat} {v w : AV} {L : List Kept} {dur n k : Nat} {F' : Fr} {S' : AS} (i : Nat) (h1 : Keep (fun id => bnd v = id + 1) S S') (h2 : HistAt S' h v (doubtL L i) dur) (h2b : S'.next = S.next) (h3 : sl F' 0 = .ptr h 0 0 3) (h4 : sl F' 11 = .int .i64 n) (h5 : sl F' 12 = .int .i64 i) (h6 : i ≤ n) (h7 : k = n - i) : dbtH S h v w L dur n k F' S' := ⟨i, h1, h2, h2b, h3, h4, h5, h6, h7⟩
theorem nt89 : Tryz.f89.ntmps = 32 := by kernel_rfl
set_option maxRecDepth 20000 in
theorem doubts89 (hh : HistAt S h v L dur) {n : Nat} (hn0 : n ≤ L.length) : CallW C0 89 [.ptr h 0 0 3, .int .i64 n] S fun r T => r = .tuple [] ∧ HistAt T h v (doubtL L n) dur ∧ Keep (fun id => bnd v = id + 1) S T ∧ T.next = S.next := by
  have u1 := hh.gw.1.sl
  have u2 := hh.len
  have hle := hh.le
  have hcut := cut_flat hh.gw.1 encK_len (by omega) (l := 0) (k := n) (by omega) (by omega)
  have c1 := hcut.sl
  have c2 : sLen (subA v 0 n) = n := by rw [hcut.len_flat encK_len (by omega)]; simp; omega
  refine enterW (pu0 _) (pr0 _ rfl) fn89 rfl ok89 (by simp) fun F hn hs => ?_
  rw [nt89] at hn
  have s0 := hs 0
  have s1 := hs 1
  clear hs
  simp only [List.getElem?_cons_zero, List.getElem?_cons_succ, Option.getD_some] at s0 s1
  have qn : (n : Int) ≤ L.length := by omega
  simp [s0, s1, hh.at_, u1, u2, c1, c2, hn0, hn]
  refine loopP_of (dbtH S h v (subA v 0 n) L dur n) n (dbtH_mk 0 Keep.refl hh rfl (by simp [s0]) (by simp) (by simp) (Nat.zero_le _) rfl) ?_
  rintro k F' S' hn' ⟨i, q1, q2, q3, t0, t11, t12, hi, hk⟩
  have hn2 : F'.n = 32 := by rw [hn']; simp [hn]
  clear hn' s0 s1 hn
  have w1 := q2.gw.1.sl
  have w2 := q2.len
  rw [doubtL_len] at w2
  by_cases hi' : i < n
  · have hil : i < (doubtL L i).length := by rw [doubtL_len]; omega
    have hiL : i < L.length := by omega
    have hki : (doubtL L i)[i]? = some ((doubtL L i)[i]'hil) := List.getElem?_eq_getElem _
    generalize (doubtL L i)[i]'hil = kk at hki
    have hpp := isP_pAt (k := i) w1 (by rw [w2]; omega)
    have hlo := loadT_elf (cx := C0) (e := 3) (o := 3) (y := .int .i64 kk.state) q2.gw.1 encK_len (by omega) hki rfl ag3
    have hw := wrap_succ (i := i) (by omega)
    have hst := doubtL_step hki
    by_cases h0 : kk.state = 0
    · rw [if_pos h0] at hst
      obtain ⟨T', e3, hk3, hst', hn3⟩ := q2.turn (j := i) hil 2
      rw [← hst] at hk3
      simp [t0, t11, t12, hi', q2.at_, w1, w2, hiL, fieldP_add hpp, hlo, h0, e3]
      exact ⟨n - (i + 1), by omega, dbtH_mk (i + 1) (q1.trans ⟨fun id _ ha => hst' id (fun e => ha e.symm), by omega⟩) hk3 (by omega) (by simp [t0]) (by simp [t11]) (by simp [hw]) hi' rfl⟩
    · rw [if_neg h0] at hst
      simp [t0, t11, t12, hi', q2.at_, w1, w2, hiL, fieldP_add hpp, hlo, h0]
      exact ⟨n - (i + 1), by omega, dbtH_mk (i + 1) q1 (by rw [hst]; exact q2) q3 (by simp [t0]) (by simp [t11]) (by simp [hw]) hi' rfl⟩
  · have hie : i = n := by omega
    subst hie
    simp [t0, t11, t12]
    exact ⟨q2, q1, q3⟩
end
end Go.Proofs.YtedonhemfhfbaaaGreat.mod

namespace Go.Proofs.YtedonhemfhfbaaaGreat.mod
open Go Go.Am
set_option linter.unusedVariables false
set_option linter.unusedSimpArgs false

/-- What a rule's answers make of a history. -/
def goneBy (P : Nat → Bool) (L : List Kept) (l : List ItemG) : List Kept := l.foldl (fun M x => if P x.n then setState M (x.n - 1) 1 else M) L
theorem goneBy_snoc (P : Nat → Bool) (L : List Kept) {l : List ItemG} {i : Nat} {x : ItemG} (hx : l[i]? = some x) : goneBy P L (l.take (i + 1)) = if P x.n then setState (goneBy P L (l.take i)) (x.n - 1) 1 else goneBy P L (l.take i) := by
  obtain ⟨hi, rfl⟩ := List.getElem?_eq_some_iff.1 hx
  unfold goneBy
  rw [List.take_succ_eq_append_getElem hi, List.foldl_append]
  rfl
theorem goneBy_len (P : Nat → Bool) (l : List ItemG) : ∀ L : List Kept, (goneBy P L l).length = L.length := by
  induction l with
  | nil => intro L; rfl
  | cons x l ih =>
    intro L
    show (goneBy P _ l).length = _
    rw [ih]
    show (if P x.n then setState L (x.n - 1) 1 else L).length = _
    split
    · rw [setState_len]
    · rfl
def countBy (P : Nat → Bool) (l : List ItemG) : Nat := l.countP fun x => P x.n
theorem countBy_snoc (P : Nat → Bool) {l : List ItemG} {i : Nat} {x : ItemG} (hx : l[i]? = some x) : countBy P (l.take (i + 1)) = if P x.n then countBy P (l.take i) + 1 else countBy P (l.take i) := by
  obtain ⟨hi, rfl⟩ := List.getElem?_eq_some_iff.1 hx
  unfold countBy
  rw [List.take_succ_eq_append_getElem hi, List.countP_append]
  simp only [List.countP_cons, List.countP_nil]
  split <;> simp_all
section
variable {S : AS} {h : Nat} {v : AV} {L : List Kept} {dur : Nat}
theorem nt65 : Tryz.f65.ntmps = 88 := by kernel_rfl
def go2H (S : AS) (h : Nat) (v u g : AV) (L : List Kept) (l : List ItemG) (P : Nat → Bool) (dur k : Nat) (F' : Fr) (S' : AS) : Prop :=
  ∃ i : Nat, Keep (fun id => bnd v = id + 1) S S' ∧ HistAt S' h v (goneBy P L (l.take i)) dur ∧ sl F' 0 = .ptr h 0 0 3 ∧ sl F' 11 = g ∧ sl F' 12 = .int .i64 (countBy P (l.take i)) ∧ sl F' 64 = u ∧ sl F' 65 = .int .i64 l.length ∧ sl F' 66 = .int .i64 i ∧ i ≤ l.length ∧ k = l.length - i
theorem go2H_mk {S : AS} {h : Nat} {v u g : AV} {L : List Kept} {l : List ItemG} {P : Nat → Bool} {dur k : Nat} {F' : Fr} {S' : AS} (i : Nat) (h1 : Keep (fun id => bnd v = id + 1) S S') (h2 : HistAt S' h v (goneBy P L (l.take i)) dur) (h3 : sl F' 0 = .ptr h 0 0 3) (h4 : sl F' 11 = g) (h5 : sl F' 12 = .int .i64 (countBy P (l.take i)))
    (h6 : sl F' 64 = u) (h7 : sl F' 65 = .int .i64 l.length) (h8 : sl F' 66 = .int .i64 i) (h9 : i ≤ l.length) (h10 : k = l.length - i) : go2H S h v u g L l P dur k F' S' := ⟨i, h1, h2, h3, h4, h5, h6, h7, h8, h9, h10⟩
/-- What goes: what it answers, and what it leaves. -/
def GoesTo (L : List Kept) (dur : Nat) (x y : Nat) (L' : List Kept) : Prop :=
  (doubtUp L dur = true ∧ x = 0 ∧ y = (itemsUp L dur).length ∧ L' = doubtL L dur) ∨ (doubtUp L dur = false ∧ ∃ P, x = countBy P (itemsUp L dur) ∧ y = x ∧ L' = goneBy P L (itemsUp L dur))
set_option maxRecDepth 20000 in
theorem goes65 (hh : HistAt S h v L dur) {fw : FuncId} {capsw : List AV} (hfw : (fw == 228) = false) (hok : okW (.func (.func fw) [] capsw) = true)
    (hw : ∀ T u, Sub S T → ItemsAt T u (itemsUp L dur) → CallW C0 fw (u :: capsw) T fun r V => (∃ P, RuleAt T.next V r P) ∧ Sub T V) :
    CallW C0 65 [.ptr h 0 0 3, .func (.func fw) [] capsw] S fun r T => ∃ (x y : Nat) (L' : List Kept), r = .tuple [.int .i64 x, .int .i64 y] ∧ GoesTo L dur x y L' ∧ HistAt T h v L' dur ∧ Keep (fun id => bnd v = id + 1) S T := by
  have u1 := hh.gw.1.sl
  have u2 := hh.len
  have hle := hh.le
  have hdl := hh.dur
  have hcut := cut_flat hh.gw.1 encK_len (by omega) (l := 0) (k := dur) (by omega) (by omega)
  have c1 := hcut.sl
  have c2 : sLen (subA v 0 dur) = dur := by rw [hcut.len_flat encK_len (by omega)]; simp; omega
  refine enterW (pu0 _) (pr0 _ rfl) fn65 rfl ok65 (by simp) fun F hn hs => ?_
  rw [nt65] at hn
  have s0 := hs 0
  have s1 := hs 1
  clear hs
  simp only [List.getElem?_cons_zero, List.getElem?_cons_succ, Option.getD_some] at s0 s1
  simp [s0, s1, hn]
  refine still_ok (n := 88) (by kernel_rfl) (by simp [hn]) ?_
  simp [s0, s1, hh.at_, u1, u2, c1, c2, hdl, hh.gw.1.ok, hcut.ok]
  refine loopP_of (goH S h (.func (.func fw) [] capsw) (subA v 0 dur) L dur) dur (goH_mk 0 .nils (Sub.refl _) Gw.nil (.inl rfl) (by simp [s0]) (by simp [s1]) (by simp) (by simp; rfl) (by simp; rfl) (by simp) (by simp) (by simp) (Nat.zero_le _) rfl) ?_
  rintro k F' S' hn' ⟨i, u, q1, q2, q3, t0, t1, t6, t7, t8, t23, t24, t25, hi, hk⟩
  have hn2 : F'.n = 88 := by rw [hn']; simp [hn]
  clear hn' s0 s1 hn
  by_cases hi' : i < dur
  · have hkL : L[i]? = some (L[i]'(by omega)) := List.getElem?_eq_getElem _
    generalize L[i]'(by omega) = kk at hkL
    have hkc : ((L.drop 0).take (dur - 0))[i]? = some kk := by rw [List.drop_zero, Nat.sub_zero, List.getElem?_take, if_pos hi']; exact hkL
    have hlo := loadT_el (cx := C0) (e := 142) (hcut.toSub q1) encK_len (by omega) hkc ag142 sz142
    have hw1 := wrap_succ (i := i) (by omega)
    have hw2 := wrap_succ (i := (itemsUp L i).length) (by have := itemsUp_len L i; omega)
    have hw3 := u64_nat (n := i) (by omega)
    have hw4 := u64_succ (n := i) (by omega)
    have hku := (hh.att kk (List.mem_of_getElem? hkL)).sl.cells
    have hko := okW_sl (hh.att kk (List.mem_of_getElem? hkL)).sl
    have hSn := q1.next
    have hsd := doubtUp_step hkL
    have hsi := itemsUp_step hkL
    have huo := okW_sl q2.1
    simp only [encK] at hlo
    have hA : Sub S' ⟨(S'.h.set S'.next (.row [.int .u64 0, .str [], .nils, .int .i64 0] 0 0 false 142)).set S'.next (.row [.int .u64 kk.time, .str kk.key, kk.u, .int .i64 kk.state] 0 0 false 142), S'.next + 1⟩ := sub1s
    have hqA : Gw ⟨(S'.h.set S'.next (.row [.int .u64 0, .str [], .nils, .int .i64 0] 0 0 false 142)).set S'.next (.row [.int .u64 kk.time, .str kk.key, kk.u, .int .i64 kk.state] 0 0 false 142), S'.next + 1⟩ u 4 42 ((itemsUp L i).flatMap encI) :=
      q2.agree (fun id e => hA.h id (by have := q2.1.old; omega)) hA.next
    by_cases h1 : kk.state = 1
    · rw [if_pos h1] at hsi
      rw [h1] at hA hqA
      have h2 : ¬ kk.state = 2 := by omega
      have hd' : doubtUp L (i + 1) = doubtUp L i := by rw [hsd]; simp [h2]
      cases hd : doubtUp L i with
      | true =>
        rw [hd] at t7
        simp [t0, t1, t6, t7, t8, t23, t24, t25, hi', c1, c2, hlo, h1]
        exact ⟨dur - (i + 1), by omega, goH_mk (i + 1) u (q1.trans hA) (by rw [hsi]; exact hqA) q3 (by simp [t0]) (by simp [t1]) (by simp [t6]) (by simp [t7, hd', hd]) (by simp [t8, hsi]) (by simp [t23]) (by simp [t24]) (by simp [hw1]) hi' rfl⟩
      | false =>
        rw [hd] at t7
        simp [t0, t1, t6, t7, t8, t23, t24, t25, hi', c1, c2, hlo, h1]
        exact ⟨dur - (i + 1), by omega, goH_mk (i + 1) u (q1.trans hA) (by rw [hsi]; exact hqA) q3 (by simp [t0]) (by simp [t1]) (by simp [t6]) (by simp [hd', hd]) (by simp [t8, hsi]) (by simp [t23]) (by simp [t24]) (by simp [hw1]) hi' rfl⟩
    · obtain ⟨u', V, e2, r1, r2, r3, r4, r5⟩ := add_item hqA hkL h1 (by omega) q3 (by show S.next ≤ S'.next + 1; omega)
      have hV : Sub S V := ⟨fun id hid => (r2 id hid).trans ((q1.trans hA).h id hid), by have : S'.next + 1 ≤ V.next := r3; omega⟩
      have hlen : (itemsUp L (i + 1)).length = (itemsUp L i).length + 1 := by rw [hsi, if_neg h1, List.length_append]; rfl
      simp only at e2
      cases hd : doubtUp L i with
      | true =>
        have hd' : doubtUp L (i + 1) = true := by rw [hsd, hd]; rfl
        rw [hd] at t7
        simp [t0, t1, t6, t7, t8, t23, t24, t25, hi', c1, c2, hlo, h1, hku, hko, huo, hw3, hw4, bld42, e2, r5]
        exact ⟨dur - (i + 1), by omega, goH_mk (i + 1) u' hV r1 r4 (by simp [t0]) (by simp [t1]) (by simp) (by simp [t7, hd']) (by simp [hw2, hlen]) (by simp [t23]) (by simp [t24]) (by simp [hw1]) hi' rfl⟩
      | false =>
        have hd' : doubtUp L (i + 1) = decide (kk.state = 2) := by rw [hsd, hd]; rfl
        rw [hd] at t7
        by_cases h2 : kk.state = 2
        · rw [h2] at e2
          simp [t0, t1, t6, t7, t8, t23, t24, t25, hi', c1, c2, hlo, h1, h2, hku, hko, huo, hw3, hw4, bld42, e2, r5]
          exact ⟨dur - (i + 1), by omega, goH_mk (i + 1) u' hV r1 r4 (by simp [t0]) (by simp [t1]) (by simp) (by simp [hd', h2]) (by simp [hw2, hlen]) (by simp [t23]) (by simp [t24]) (by simp [hw1]) hi' rfl⟩
        · simp [t0, t1, t6, t7, t8, t23, t24, t25, hi', c1, c2, hlo, h1, h2, hku, hko, huo, hw3, hw4, bld42, e2, r5]
          exact ⟨dur - (i + 1), by omega, goH_mk (i + 1) u' hV r1 r4 (by simp [t0]) (by simp [t1]) (by simp) (by simp [hd', h2]) (by simp [hw2, hlen]) (by simp [t23]) (by simp [t24]) (by simp [hw1]) hi' rfl⟩
  · have hie : i = dur := by omega
    subst hie
    have hhS := hh.sub q1
    have huo := okW_sl q2.1
    cases hd : doubtUp L i with
    | true =>
      rw [hd] at t7
      obtain ⟨r, V, ⟨rfl, d1, d2, d3⟩, e1⟩ := (doubts89 hhS (n := i) (by omega)).ex
      simp [t0, t1, t6, t7, t8, t23, t24, t25, hhS.at_, e1, ex0]
      exact ⟨0, _, ⟨rfl, rfl⟩, _, .inl ⟨hd, rfl, rfl, rfl⟩, d1, (q1.keep).trans d2⟩
    | false =>
      rw [hd] at t7
      have hit : ItemsAt S' u (itemsUp L i) := ⟨q2.1, fun x hx => by
        obtain ⟨j, k, _, h2, rfl, _⟩ := itemsUp_mem hx
        exact (hhS.att k (List.mem_of_getElem? h2)), by have := itemsUp_len L i; omega⟩
      obtain ⟨g, V, ⟨⟨P, f, caps, rfl, g1, g2, g3, g4, g5⟩, hV⟩, e1⟩ := (hw S' u q1 hit).ex
      have hitV := hit.sub hV
      have v1 := hitV.sl.sl
      have v2 := hitV.sl.len_flat encI_len (by omega)
      have hll := itemsUp_len L i
      simp [t0, t1, t6, t7, t8, t23, t24, t25, e1, ex0 fw hfw, g2, g3, g4, v1, v2]
      refine loopP_of (go2H V h v u (.func (.func f) [] caps) L (itemsUp L i) P i) (itemsUp L i).length (go2H_mk 0 Keep.refl (hhS.sub hV) (by simp [t0]) (by simp) (by simp; rfl) (by simp) (by simp) (by simp) (Nat.zero_le _) rfl) ?_
      rintro k2 F2 S2 hn3 ⟨j, z1, z2, y0, y11, y12, y64, y65, y66, hj, hk2⟩
      have hn4 : F2.n = 88 := by rw [hn3]; simp [hn2]
      clear hn3 t0 t1 t6 t7 t8 t23 t24 t25 hn2
      have hvo := hh.gw.1.old
      have hub : bnd u = 0 ∨ S.next < bnd u := q3
      have hSS := q1.next
      have hVn := hV.next
      have huS2 : Sl S2 u 4 ((itemsUp L i).flatMap encI) := hitV.sl.agree (fun id e => z1.h id (by have := hitV.sl.old; omega) (fun e2 => by omega)) z1.next
      by_cases hj' : j < (itemsUp L i).length
      · have hxj : (itemsUp L i)[j]? = some ((itemsUp L i)[j]'hj') := List.getElem?_eq_getElem _
        generalize (itemsUp L i)[j]'hj' = x at hxj
        obtain ⟨m, kk, m1, m2, rfl, m3⟩ := itemsUp_mem (List.mem_of_getElem? hxj)
        have hlo := loadT_el (cx := C0) (e := 42) huS2 encI_len (by omega) hxj ag42 sz42
        have hA : Sub S2 ⟨(S2.h.set S2.next (.row [.int .u64 0, .int .u64 0, .str [], .nils] 0 0 false 42)).set S2.next (.row (encI (itemOf m kk)) 0 0 false 42), S2.next + 1⟩ := sub1s
        have hagree : ∀ id, S'.next ≤ id → id < V.next → (⟨(S2.h.set S2.next (.row [.int .u64 0, .int .u64 0, .str [], .nils] 0 0 false 42)).set S2.next (.row (encI (itemOf m kk)) 0 0 false 42), S2.next + 1⟩ : AS).h.get id = V.h.get id := fun id a1 a2 => by
          rw [hA.h id (Nat.lt_of_lt_of_le a2 z1.next)]
          exact z1.h id a2 (fun e => by omega)
        obtain ⟨r, W, ⟨rfl, hW⟩, e2⟩ := (g5 _ hagree (Nat.le_trans z1.next (Nat.le_succ _)) (m + 1)).ex
        have hku := (hh.att kk (List.mem_of_getElem? m2)).sl.cells
        have gx : W.h.get S2.next = some (.row (encI (itemOf m kk)) 0 0 false 42) := by rw [hW.h _ (Nat.lt_succ_self _)]; exact get_set_same _ _ _
        have zW := z2.sub (hA.trans hW)
        have hw1 := wrap_succ (i := j) (by omega)
        have hcl : countBy P ((itemsUp L i).take j) ≤ j := Nat.le_trans (List.countP_le_length) (by rw [List.length_take]; omega)
        have hw2 := wrap_succ (i := countBy P ((itemsUp L i).take j)) (by omega)
        have hw3 := u64_pred (n := m) (by omega)
        have w1 := zW.gw.1.sl
        have w2 := zW.len
        rw [goneBy_len] at w2
        have hmL : m < L.length := by omega
        simp only [itemOf, encI, Int.natCast_add, Int.natCast_one] at hlo e2 gx hA hW
        cases hp : P (m + 1) with
        | true =>
          rw [hp] at e2
          have hgs : goneBy P L ((itemsUp L i).take (j + 1)) = setState (goneBy P L ((itemsUp L i).take j)) m 1 := by rw [goneBy_snoc P L hxj, if_pos (show P (itemOf m kk).n = true from hp)]; rfl
          have hcs : countBy P ((itemsUp L i).take (j + 1)) = countBy P ((itemsUp L i).take j) + 1 := by rw [countBy_snoc P hxj, if_pos (show P (itemOf m kk).n = true from hp)]
          obtain ⟨T', e3, hk3, hst', hn3⟩ := zW.turn (j := m) (by rw [goneBy_len]; omega) 1
          simp at hw3
          have hW0 : h < S2.next := z2.lt
          simp [y0, y11, y12, y64, y65, y66, v1, v2, hj', hlo, hku, e2, ex0 f g1, gx, hn4]
          refine draws [.p, .p, .p, .r 0 0, .p, .r 0 0, .p, .p, .p, .e []] (n := 88) (by kernel_rfl) (by simp [hn4]) ?_
          have hpp := isP_pAt (k := m) w1 (by rw [w2]; exact hmL)
          simp [y0, y11, y12, y64, y65, y66, zW.at_, w1, w2, gx, hw3, hmL, fieldP_add hpp, e3]
          exact ⟨(itemsUp L i).length - (j + 1), by omega, go2H_mk (j + 1) (z1.trans (((hA.trans hW).keep).trans ⟨fun id _ ha => hst' id (fun e => ha e.symm), by omega⟩)) (by rw [hgs]; exact hk3) (by simp [y0]) (by simp [y11]) (by simp [hw2, hcs]) (by simp [y64]) (by simp [y65]) (by simp [hw1]) hj' rfl⟩
        | false =>
          rw [hp] at e2
          have hp' : ¬ P (itemOf m kk).n = true := by show ¬ P (m + 1) = true; rw [hp]; simp
          have hgs : goneBy P L ((itemsUp L i).take (j + 1)) = goneBy P L ((itemsUp L i).take j) := by rw [goneBy_snoc P L hxj, if_neg hp']
          have hcs : countBy P ((itemsUp L i).take (j + 1)) = countBy P ((itemsUp L i).take j) := by rw [countBy_snoc P hxj, if_neg hp']
          simp [y0, y11, y12, y64, y65, y66, v1, v2, hj', hlo, hku, e2, ex0 f g1, gx, hn4]
          exact ⟨(itemsUp L i).length - (j + 1), by omega, go2H_mk (j + 1) (z1.trans ((hA.trans hW).keep)) (by rw [hgs]; exact zW) (by simp [y0]) (by simp [y11]) (by simp [y12, hcs]) (by simp [y64]) (by simp [y65]) (by simp [hw1]) hj' rfl⟩
      · have hje : j = (itemsUp L i).length := by omega
        subst hje
        rw [List.take_length] at z2 y12
        simp [y0, y11, y12, y64, y65, y66]
        exact ⟨_, _, ⟨rfl, rfl⟩, _, .inr ⟨hd, P, rfl, rfl, rfl⟩, z2, ((q1.trans hV).keep).trans z1⟩
end
end Go.Proofs.YtedonhemfhfbaaaGreat.mod

namespace Go.Proofs.YtedonhemfhfbaaaGreat.mod
open Go Go.Am
set_option linter.unusedVariables false
set_option linter.unusedSimpArgs false

/-- Events stay, states turn. -/
def Turned (D : Bool) (L L' : List Kept) : Prop :=
  L'.length = L.length ∧ ∀ (i : Nat) (k : Kept), L[i]? = some k → ∃ s, L'[i]? = some { k with state := s } ∧ (s = k.state ∨ s = 1 ∨ (s = 2 ∧ k.state = 0 ∧ D = true))
theorem Turned.refl (D : Bool) (L : List Kept) : Turned D L L := ⟨rfl, fun i k h => ⟨k.state, h, .inl rfl⟩⟩
theorem goneBy_turned (P : Nat → Bool) (D : Bool) (l : List ItemG) : ∀ L : List Kept, Turned D L (goneBy P L l) := by
  induction l with
  | nil => intro L; exact Turned.refl D L
  | cons x l ih =>
    intro L
    refine ⟨goneBy_len _ _ _, fun i k hk => ?_⟩
    show ∃ s, (goneBy P (if P x.n then setState L (x.n - 1) 1 else L) l)[i]? = _ ∧ _
    by_cases hp : P x.n = true
    · rw [if_pos hp]
      by_cases hi : i = x.n - 1
      · have h1 : (setState L (x.n - 1) 1)[i]? = some { k with state := 1 } := by rw [setState_get, hk]; simp [hi]
        obtain ⟨s, e, h⟩ := (ih (setState L (x.n - 1) 1)).2 i _ h1
        refine ⟨s, e, ?_⟩
        rcases h with h | h | h
        · exact .inr (.inl h)
        · exact .inr (.inl h)
        · exact absurd h.2.1 (by show ¬ (1 : Int) = 0; omega)
      · have h1 : (setState L (x.n - 1) 1)[i]? = some k := by rw [setState_get, hk]; simp [hi]
        exact (ih (setState L (x.n - 1) 1)).2 i _ h1
    · rw [if_neg hp]
      exact (ih L).2 i k hk
theorem GoesTo.turned {L L' : List Kept} {dur x y : Nat} (h : GoesTo L dur x y L') : Turned (doubtUp L dur) L L' ∧ x ≤ y ∧ y ≤ dur := by
  have hl := itemsUp_len L dur
  rcases h with ⟨hd, rfl, rfl, rfl⟩ | ⟨hd, P, rfl, rfl, rfl⟩
  · refine ⟨⟨doubtL_len _ _, fun i k hk => ?_⟩, Nat.zero_le _, hl⟩
    rw [doubtL_get, hk]
    by_cases hc : i < dur ∧ k.state = 0
    · exact ⟨2, by simp [hc], .inr (.inr ⟨rfl, hc.2, hd⟩)⟩
    · exact ⟨k.state, by simp only [Option.map_some, if_neg hc], .inl rfl⟩
  · exact ⟨goneBy_turned _ _ _ _, Nat.le_refl _, Nat.le_trans List.countP_le_length hl⟩
section
variable {S : AS} {h : Nat} {v : AV} {L : List Kept} {dur : Nat}
theorem retain9 (hh : HistAt S h v L dur) (a b c : Int) (now : Nat) :
    CallW C0 9 [.ptr h 0 0 3, .agg [.int .i64 a, .int .i64 b, .int .i64 c], .int .u64 now] S fun r T => ∃ (x y : Nat) (L' : List Kept), r = .tuple [.int .i64 x, .int .i64 y] ∧ ((L' = L ∧ x = 0 ∧ y = 0 ∧ polB a b c = false) ∨ (GoesTo L dur x y L' ∧ polB a b c = true)) ∧ HistAt T h v L' dur ∧ Keep (fun id => bnd v = id + 1) S T := by
  have h2 : Sub S ⟨(S.h.set S.next (.row [.int .i64 a, .int .i64 b, .int .i64 c] 0 0 false 30)).set (S.next + 1) (.row [.int .u64 now] 0 0 false 31), S.next + 2⟩ := sub2
  have hh2 := hh.sub h2
  have hlt := hh.lt
  obtain ⟨r, T, ⟨rfl, hT⟩, e1⟩ := (may64 (S := ⟨(S.h.set S.next (.row [.int .i64 a, .int .i64 b, .int .i64 c] 0 0 false 30)).set (S.next + 1) (.row [.int .u64 now] 0 0 false 31), S.next + 2⟩) a b c).ex
  have hS := h2.trans hT
  have hhT := hh.sub hS
  have gB : T.h.get S.next = some (.row [.int .i64 a, .int .i64 b, .int .i64 c] 0 0 false 30) := by
    rw [hT.h _ (by show S.next < S.next + 2; omega)]
    simp only [get_set_ne _ _ (show S.next ≠ S.next + 1 by omega), get_set_same]
  have gN : T.h.get (S.next + 1) = some (.row [.int .u64 now] 0 0 false 31) := by
    rw [hT.h _ (by show S.next + 1 < S.next + 2; omega)]
    exact get_set_same _ _ _
  have hTn : S.next + 2 ≤ T.next := hT.next
  obtain ⟨r, V, ⟨x, y, L', rfl, g1, g2, g3⟩, e2⟩ := (goes65 hhT (fw := 66) (capsw := [.ptr S.next 0 0 3, .ptr (S.next + 1) 0 0 1]) rfl (by kernel_rfl) (fun W u hW hu => which66 (by rw [hW.h _ (by omega)]; exact gB) (by rw [hW.h _ (by omega)]; exact gN) hu)).ex
  refine enterW (pu0 _) (pr0 _ rfl) fn9 rfl ok9 (by simp) fun F hn hs => ?_
  have s0 := hs 0
  have s1 := hs 1
  have s2 := hs 2
  clear hs
  simp only [List.getElem?_cons_zero, List.getElem?_cons_succ, Option.getD_some] at s0 s1 s2
  cases hp : polB a b c with
  | false =>
    rw [hp] at e1
    simp [s0, s1, s2, none63 hh2, e1, ex0]
    exact ⟨0, 0, ⟨rfl, rfl⟩, L, ⟨rfl, rfl, rfl⟩, hhT, hS.keep⟩
  | true =>
    rw [hp] at e1
    simp [s0, s1, s2, none63 hh2, e1, e2, ex0]
    exact ⟨x, y, ⟨rfl, rfl⟩, L', g1, g2, (hS.keep).trans g3⟩
end
end Go.Proofs.YtedonhemfhfbaaaGreat.mod

namespace Go.Proofs.YtedonhemfhfbaaaGreat.mod
open Go Go.Am
set_option linter.unusedVariables false
set_option linter.unusedSimpArgs false

structure OneAt (S : AS) (lo b h : Nat) (st : Nat → Option SubX) (v : AV) (L : List Kept) (dur : Nat) : Prop where
  k : BookAt S b st
  hh : HistAt S h v L dur
  d : ∀ id, bookFoot b st id → histFoot h v L id → False
  lo1 : ∀ id, bookFoot b st id → lo ≤ id
  lo2 : ∀ id, histFoot h v L id → lo ≤ id
  lo : lo ≤ S.next
section
variable {S T : AS} {lo b h : Nat} {st : Nat → Option SubX} {v : AV} {L : List Kept} {dur : Nat}
theorem OneAt.sub (o : OneAt S lo b h st v L dur) (hs : Sub S T) : OneAt T lo b h st v L dur :=
  ⟨o.k.toSub hs, o.hh.sub hs, o.d, o.lo1, o.lo2, Nat.le_trans o.lo hs.next⟩
theorem OneAt.step {st' : Nat → Option SubX} (o : OneAt S lo b h st v L dur) (hs : Step S T b st st') : OneAt T lo b h st' v L dur := by
  have hn := hs.keep.next
  refine ⟨hs.book, o.hh.agree (fun id hf => hs.keep.h id (o.hh.foot hf) (fun h1 => o.d id h1 hf)) hn, ?_, ?_, o.lo2, Nat.le_trans o.lo hn⟩
  · intro id f1 f2
    rcases hs.foot id f1 with h1 | h1
    · exact o.d id h1 f2
    · have := o.hh.foot f2; omega
  · intro id f1
    rcases hs.foot id f1 with h1 | h1
    · exact o.lo1 id h1
    · have := o.lo; omega
/-- The history turns. -/
theorem OneAt.turn {L' : List Kept} {dur' : Nat} (o : OneAt S lo b h st v L dur) (hk : Keep (fun id => histFoot h v L id) S T) (hh' : HistAt T h v L' dur') (hf : ∀ id, histFoot h v L' id → histFoot h v L id) : OneAt T lo b h st v L' dur' :=
  ⟨o.k.agree (fun id hb => hk.h id (o.k.foot hb) (fun e => o.d id hb e)) hk.next, hh', fun id h1 h2 => o.d id h1 (hf id h2), o.lo1, fun id h1 => o.lo2 id (hf id h1), Nat.le_trans o.lo hk.next⟩
theorem Turned.foot {D : Bool} {L' : List Kept} (ht : Turned D L L') {id : Nat} (hf : histFoot h v L' id) : histFoot h v L id := by
  rcases hf with e | e | ⟨k, hk, e⟩
  · exact .inl e
  · exact .inr (.inl e)
  · obtain ⟨i, hi⟩ := List.mem_iff_getElem?.1 hk
    have hl : i < L.length := by rw [← ht.1]; exact (List.getElem?_eq_some_iff.1 hi).1
    obtain ⟨s, e2, _⟩ := ht.2 i _ (List.getElem?_eq_getElem hl)
    rw [hi] at e2
    cases e2
    exact .inr (.inr ⟨L[i], List.getElem_mem hl, e⟩)
theorem goneL_turned (D : Bool) (L : List Kept) (d : Dlv) : Turned D L (goneL L d) := by
  unfold goneL
  split
  · refine ⟨goneUp_len _ _ _, fun i k hk => ?_⟩
    rw [goneUp_get, hk]
    simp only [Option.map_some]
    split
    · exact ⟨1, rfl, .inr (.inl rfl)⟩
    · exact ⟨k.state, rfl, .inl rfl⟩
  · exact Turned.refl D L
/-- A delivery that fits is told. -/
theorem OneAt.tell (o : OneAt S lo b h st v L dur) (id pub : Int) (d : Dlv) (hd : AttsAt S d.u d.atts) (hf : fitsV (stAt st id) L dur pub d = 0) :
    CallW C0 17 [.ptr b 0 0 17, .int .i64 id, .int .i64 pub, .agg (encD d), .ptr h 0 0 3] S fun r T => ∃ X st', stAt st id = some X ∧ OneAt T lo b h st' v (goneL L d) dur ∧ abst st' = updS (abst st) id.toNat (some (tellS X.x pub (spanT d))) ∧ Keep (fun id => bookFoot b st id ∨ histFoot h v L id) S T := by
  obtain ⟨r, T, ⟨X, tv, S1, h1, h2, h3, h4, h5, h6⟩, e⟩ := (tell_yes o.k o.hh id pub d hd (fun i a c => o.d i a c) hf).ex
  rw [e]
  have ht := goneL_turned (doubtUp L dur) L d
  have hk : Keep (fun id => histFoot h v L id) S S1 := h2.mono fun i _ ⟨_, e⟩ => .inr (.inl e)
  have o1 := o.turn hk h3 (fun id hf => ht.foot hf)
  exact ⟨X, _, h1, o1.step h5, abst_upd, (hk.mono fun i _ h => .inr h).trans (h5.keep.mono fun i _ h => .inl h)⟩
end
end Go.Proofs.YtedonhemfhfbaaaGreat.mod
