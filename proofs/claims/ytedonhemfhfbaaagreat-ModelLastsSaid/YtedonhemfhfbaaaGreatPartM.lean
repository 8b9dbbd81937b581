/-
  Compact: what is asked of the items that are there.
  Compact: which numbers go.
  A history's crash.
  Events alike; Answer that finds nothing.
  ModelLasts: a history and its copy; what each call leaves.
  ModelLasts: the law.
  ModelLasts: the calls that are given, with their events.
-/
import Derived.Test.YtedonhemfhfbaaaGreatPartL
import Derived.Test.YtedonhemfhfbaaaGreatPartE
import Derived.Test.YtedonhemfhfbaaaGreatPartG
namespace Go.Proofs.YtedonhemfhfbaaaGreat.mod
open Go Go.Am
set_option linter.unusedVariables false
set_option linter.unusedSimpArgs false

theorem fn137 : C0.fns.get 137 = some Tryz.f137 := by kernel_rfl
theorem ok137 : codeOk C0 Tryz.f137.ntmps (Tryz.f137.body.getD .skip) = true := by kernel_rfl
@[simp] theorem mt228 : mapT C0 228 = true := by kernel_rfl
@[simp] theorem sz228 : szOf C0 228 = some 1 := by kernel_rfl
@[simp] theorem ze228 : zeroOf C0 228 = some (.nilm) := by kernel_rfl
@[simp] theorem ag228 : aggOf C0 228 = some false := by kernel_rfl
@[simp] theorem mk228 : mapK C0 228 = some (.string, .int .i64 0) := by kernel_rfl
theorem fn91 : C0.fns.get 91 = some Tryz.f91 := by kernel_rfl
theorem ok91 : codeOk C0 Tryz.f91.ntmps (Tryz.f91.body.getD .skip) = true := by kernel_rfl
@[simp] theorem sz66 : szOf C0 66 = some 1 := by kernel_rfl
@[simp] theorem ze66 : zeroOf C0 66 = some (.nils) := by kernel_rfl
theorem fn93 : C0.fns.get 93 = some Tryz.f93 := by kernel_rfl
theorem ok93 : codeOk C0 Tryz.f93.ntmps (Tryz.f93.body.getD .skip) = true := by kernel_rfl
theorem fn177 : C0.fns.get 177 = some Tryz.f177 := by kernel_rfl
theorem ok177 : codeOk C0 Tryz.f177.ntmps (Tryz.f177.body.getD .skip) = true := by kernel_rfl
theorem fn94 : C0.fns.get 94 = some Tryz.f94 := by kernel_rfl
theorem ok94 : codeOk C0 Tryz.f94.ntmps (Tryz.f94.body.getD .skip) = true := by kernel_rfl
theorem fn33 : C0.fns.get 33 = some Tryz.f33 := by kernel_rfl
theorem ok33 : codeOk C0 Tryz.f33.ntmps (Tryz.f33.body.getD .skip) = true := by kernel_rfl
theorem fn90 : C0.fns.get 90 = some Tryz.f90 := by kernel_rfl
theorem ok90 : codeOk C0 Tryz.f90.ntmps (Tryz.f90.body.getD .skip) = true := by kernel_rfl
theorem fn139 : C0.fns.get 139 = some Tryz.f139 := by kernel_rfl
theorem ok139 : codeOk C0 Tryz.f139.ntmps (Tryz.f139.body.getD .skip) = true := by kernel_rfl
theorem keyStr : KeyE .string (fun s : List Nat => AV.str s) :=
  ⟨fun a b => by
    show some (eqS a b) = _
    rw [eqS_eq], fun _ => rfl⟩
/-- Places by keys: each below a bound. -/
def encP (m : List (List Nat × Nat)) : List (List Nat × AV) := m.map fun p => (p.1, AV.int .i64 (p.2 : Int))
def sget : List (List Nat × Nat) → List Nat → Option Nat
  | [], _ => none
  | (a, v) :: m, k => if k = a then some v else sget m k
def sput : List (List Nat × Nat) → List Nat → Nat → List (List Nat × Nat)
  | [], k, v => [(k, v)]
  | (a, w) :: m, k, v => if k = a then (k, v) :: m else (a, w) :: sput m k v
theorem mget_encP (m : List (List Nat × Nat)) (k : List Nat) : mget (encP m) k = (sget m k).map fun n : Nat => AV.int .i64 (n : Int) := by
  induction m with
  | nil => rfl
  | cons p m ih =>
    obtain ⟨a, v⟩ := p
    show (if k = a then some (AV.int .i64 (v : Int)) else mget (encP m) k) = _
    unfold sget
    by_cases h : k = a <;> simp [h, ih]
theorem mput_encP (m : List (List Nat × Nat)) (k : List Nat) (n : Nat) : mput (encP m) k (.int .i64 (n : Int)) = encP (sput m k n) := by
  induction m with
  | nil => rfl
  | cons p m ih =>
    obtain ⟨a, v⟩ := p
    show (if k = a then (k, AV.int .i64 (n : Int)) :: encP m else (a, AV.int .i64 (v : Int)) :: mput (encP m) k (.int .i64 (n : Int))) = _
    unfold sput
    by_cases h : k = a
    · simp [h, encP]
    · rw [if_neg h, if_neg h, ih]
      rfl
theorem sput_all {m : List (List Nat × Nat)} {k : List Nat} {n B : Nat} (h : ∀ p, p ∈ m → p.2 < B) (hn : n < B) : ∀ p, p ∈ sput m k n → p.2 < B := by
  induction m with
  | nil =>
    intro p hp
    simp [sput] at hp
    rw [hp]; exact hn
  | cons q m ih =>
    obtain ⟨a, w⟩ := q
    intro p hp
    unfold sput at hp
    split at hp
    · rcases List.mem_cons.1 hp with hp | hp
      · rw [hp]; exact hn
      · exact h p (List.mem_cons_of_mem _ hp)
    · rcases List.mem_cons.1 hp with hp | hp
      · rw [hp]; exact h (a, w) (List.mem_cons_self ..)
      · exact ih (fun p hp => h p (List.mem_cons_of_mem _ hp)) p hp
theorem sget_mem {m : List (List Nat × Nat)} {k : List Nat} {n : Nat} (h : sget m k = some n) : (k, n) ∈ m := by
  induction m with
  | nil => cases h
  | cons q m ih =>
    obtain ⟨a, w⟩ := q
    unfold sget at h
    split at h
    · rename_i hk; cases h; rw [hk]; exact List.mem_cons_self ..
    · exact List.mem_cons_of_mem _ (ih h)

/-! ### slices.Contains at numbers -/
def idnH (S : AS) (u : AV) (d : Array Nat) (n : Nat) (k : Nat) (F' : Fr) (S' : AS) : Prop :=
  S' = S ∧ ∃ i : Nat, sl F' 0 = u ∧ sl F' 1 = .int .u64 n ∧ sl F' 7 = .int .i64 d.size ∧ sl F' 8 = .int .i64 i ∧ i ≤ d.size ∧ k = d.size - i ∧ ∀ j, j < i → nth d j ≠ n
def hasN (d : Array Nat) (n : Nat) : Bool := (List.range d.size).any fun j => decide (nth d j = n)
theorem hasN_yes {d : Array Nat} {n j : Nat} (hj : j < d.size) (h : nth d j = n) : hasN d n = true := List.any_eq_true.2 ⟨j, List.mem_range.2 hj, by simp [h]⟩
theorem hasN_no {d : Array Nat} {n : Nat} (h : ∀ j, j < d.size → nth d j ≠ n) : hasN d n = false := by
  unfold hasN
  rw [List.any_eq_false]
  intro j hj
  simp [h j (List.mem_range.1 hj)]
theorem index139 {S : AS} {u : AV} {d : Array Nat} {n : Nat} (h : NumAt S u d) (hsz : d.size ≤ 1048576) : CallW C0 139 [u, .int .u64 n] S fun r T => T = S ∧ ∃ m : Int, r = .int .i64 m ∧ decide (0 ≤ m) = hasN d n := by
  have u1 := h.sl
  have u2 := h.len
  refine enterW (pu0 _) (pr0 _ rfl) fn139 rfl ok139 (by simp) fun F hn hs => ?_
  have s0 := hs 0
  have s1 := hs 1
  clear hs
  simp only [List.getElem?_cons_zero, List.getElem?_cons_succ, Option.getD_some] at s0 s1
  simp [s0, s1, u1, u2]
  refine loopP_of (idnH S u d n) d.size ⟨rfl, 0, by simp [s0], by simp [s1], by simp, by simp, Nat.zero_le _, rfl, fun j hj => by omega⟩ ?_
  rintro k F' S' hn' ⟨e0, i, t0, t1, t7, t8, hi, hk, ha⟩
  subst e0
  clear hn' s0 s1 hn
  by_cases hi' : i < d.size
  · have hl := h.ld hi'
    have hw := wrap_succ (i := i) (by omega)
    by_cases hx : nth d i = n
    · have hx' : (n : Int) = (nth d i : Int) := by omega
      simp [t0, t1, t7, t8, u1, u2, hi', hl, hx', hasN_yes hi' hx]
    · have hx' : ¬ (n : Int) = (nth d i : Int) := by omega
      simp [t0, t1, t7, t8, u1, u2, hi', hl, hx']
      exact ⟨d.size - (i + 1), by omega, rfl, i + 1, by simp [t0], by simp [t1], by simp [t7], by simp [hw], hi', rfl, fun j hj => by
        by_cases hj2 : j = i
        · rw [hj2]; exact hx
        · exact ha j (by omega)⟩
  · simp [t0, t1, t7, t8, hi', hasN_no (fun j hj => ha j (by omega))]
theorem contains94 {S : AS} {u : AV} {d : Array Nat} {n : Nat} (h : NumAt S u d) (hsz : d.size ≤ 1048576) {Q : AV → AS → Prop} : CallW C0 94 [u, .int .u64 n] S Q = Q (.bool (hasN d n)) S := by
  obtain ⟨v, T, ⟨rfl, m, rfl, hm⟩, e⟩ := (index139 (n := n) h hsz).ex
  have wk := h.ok
  refine CallW.eq (enterW (pu0 _) (pr0 _ rfl) fn94 rfl ok94 (by simp) fun F hn hs => ?_)
  have s0 := hs 0
  have s1 := hs 1
  clear hs
  simp only [List.getElem?_cons_zero, List.getElem?_cons_succ, Option.getD_some] at s0 s1
  rw [← hm]
  simp [s0, s1, e, ex0, wk]

/-! ### Which items go -/
/-- What parted knows: the items, and where each key stood last. -/
structure PartAt (S : AS) (u : AV) (l : List ItemG) (B M : Nat) : Prop where
  items : ItemsAt S u l
  box : S.h.get B = some (.row [u] 0 0 false 117)
  map : ∃ (x : AV) (m : List (List Nat × Nat)), S.h.get M = some (.row [x] 0 0 false 228) ∧ Mp S x (fun s : List Nat => AV.str s) (encP m) ∧ ∀ p, p ∈ m → p.2 < l.length
  lt : B < S.next ∧ M < S.next
theorem PartAt.sub {S T : AS} {u : AV} {l : List ItemG} {B M : Nat} (h : PartAt S u l B M) (hs : Sub S T) : PartAt T u l B M := by
  obtain ⟨x, m, h1, h2, h3⟩ := h.map
  exact ⟨h.items.sub hs, by rw [hs.h _ h.lt.1]; exact h.box, ⟨x, m, by rw [hs.h _ h.lt.2]; exact h1, Mp.agree h2 (fun id e => hs.h id (by have := Mp.lt h2; omega)) hs.next, h3⟩, Nat.lt_of_lt_of_le h.lt.1 hs.next, Nat.lt_of_lt_of_le h.lt.2 hs.next⟩
theorem nt177 : Tryz.f177.ntmps = 24 := by kernel_rfl
theorem goes177 {S : AS} {u : AV} {l : List ItemG} {B M i : Nat} (h : PartAt S u l B M) (hi : i < l.length) : CallW C0 177 [.int .i64 i, .ptr B 0 0 1, .ptr M 0 0 1] S fun r T => T = S ∧ ∃ b : Bool, r = .bool b := by
  have u1 := h.items.sl.sl
  have u2 := h.items.sl.len_flat encI_len (by omega)
  have hx : l[i]? = some l[i] := List.getElem?_eq_getElem hi
  have hpp := isP_pAt (k := i) u1 (by rw [u2]; exact hi)
  have hlo := loadT_elf (cx := C0) (e := 9) (o := 2) (y := .str l[i].key) h.items.sl encI_len (by omega) hx rfl ag9
  obtain ⟨x, m, h1, h2, h3⟩ := h.map
  have lk := lookup_mp (cx := C0) (t := 228) (k := l[i].key) (ok := false) mk228 keyStr h2
  rw [mget_encP] at lk
  have okx : okW x = true := by obtain ⟨_, _, _, h, _⟩ := h2; rw [h]; rfl
  have ovx : okV x = true := by obtain ⟨_, _, _, h, _⟩ := h2; rw [h]; rfl
  have uok := h.items.sl.ok
  refine enterW (pu0 _) (pr0 _ rfl) fn177 rfl ok177 (by simp) fun F hn hs => ?_
  rw [nt177] at hn
  have s0 := hs 0
  have s1 := hs 1
  have s2 := hs 2
  clear hs
  simp only [List.getElem?_cons_zero, List.getElem?_cons_succ, Option.getD_some] at s0 s1 s2
  simp [s0, s1, s2]
  refine still_ok (n := 24) (by kernel_rfl) (by simp [hn]) ?_
  by_cases hk : l[i].key = []
  · simp [s0, s1, s2, h.box, u1, u2, uok, hi, fieldP_add hpp, fieldP_add (isP_addP hpp), okV_addP, addP_add, hlo, hk, eqS_eq]
  · cases hg : sget m l[i].key with
    | none =>
      rw [hg] at lk
      simp at lk
      simp [s0, s1, s2, h.box, u1, u2, uok, hi, fieldP_add hpp, fieldP_add (isP_addP hpp), okV_addP, addP_add, hlo, hk, eqS_eq, h1, okx, ovx, lk]
      omega
    | some n =>
      rw [hg] at lk
      simp at lk
      simp [s0, s1, s2, h.box, u1, u2, uok, hi, fieldP_add hpp, fieldP_add (isP_addP hpp), okV_addP, addP_add, hlo, hk, eqS_eq, h1, okx, ovx, lk]
      omega
theorem nt137 : Tryz.f137.ntmps = 43 := by kernel_rfl
def compH (S : AS) (u : AV) (l : List ItemG) (k : Nat) (F' : Fr) (S' : AS) : Prop :=
  ∃ (i : Nat) (m : List (List Nat × Nat)), Sub S S' ∧ S'.h.get S.next = some (.row [u] 0 0 false 117) ∧ S'.h.get (S.next + 2) = some (.row [.map (S.next + 1)] 0 0 false 228) ∧ Mp S' (.map (S.next + 1)) (fun s : List Nat => AV.str s) (encP m) ∧ (∀ p, p ∈ m → p.2 < l.length) ∧ S.next + 3 ≤ S'.next ∧
    sl F' 1 = .ptr S.next 0 0 1 ∧ sl F' 3 = .ptr (S.next + 2) 0 0 1 ∧ sl F' 9 = u ∧ sl F' 10 = .int .i64 l.length ∧ sl F' 11 = .int .i64 i ∧ F'.n = 43 ∧ i ≤ l.length ∧ k = l.length - i
theorem compH_mk {S : AS} {u : AV} {l : List ItemG} {k : Nat} {F' : Fr} {S' : AS} (i : Nat) (m : List (List Nat × Nat)) (h1 : Sub S S') (h2 : S'.h.get S.next = some (.row [u] 0 0 false 117)) (h3 : S'.h.get (S.next + 2) = some (.row [.map (S.next + 1)] 0 0 false 228)) (h4 : Mp S' (.map (S.next + 1)) (fun s : List Nat => AV.str s) (encP m)) (h5 : ∀ p, p ∈ m → p.2 < l.length) (h6 : S.next + 3 ≤ S'.next)
    (h7 : sl F' 1 = .ptr S.next 0 0 1) (h8 : sl F' 3 = .ptr (S.next + 2) 0 0 1) (h9 : sl F' 9 = u) (h10 : sl F' 10 = .int .i64 l.length) (h11 : sl F' 11 = .int .i64 i) (h12 : F'.n = 43) (h13 : i ≤ l.length) (h14 : k = l.length - i) : compH S u l k F' S' := ⟨i, m, h1, h2, h3, h4, h5, h6, h7, h8, h9, h10, h11, h12, h13, h14⟩
set_option maxRecDepth 20000 in
theorem parted137 {S : AS} {u : AV} {l : List ItemG} (h : ItemsAt S u l) : CallW C0 137 [u] S fun r T => Sub S T ∧ r = .func (.func 177) [] [.ptr S.next 0 0 1, .ptr (S.next + 2) 0 0 1] ∧ PartAt T u l S.next (S.next + 2) := by
  have u1 := h.sl.sl
  have u2 := h.sl.len_flat encI_len (by omega)
  have uc := h.sl.cells
  have uok := h.sl.ok
  have uk := okW_sl h.sl
  have hle := h.le
  refine enterW (pu0 _) (pr0 _ rfl) fn137 rfl ok137 (by simp) fun F hn hs => ?_
  rw [nt137] at hn
  have s0 := hs 0
  clear hs
  simp only [List.getElem?_cons_zero, List.getElem?_cons_succ, Option.getD_some] at s0
  simp [s0, uc, uk, u1, u2, uok]
  refine loopP_of (compH S u l) l.length (compH_mk 0 [] ?_ ?_ ?_ ?_ (by simp) ?_ (by simp) (by simp) (by simp) (by simp) (by simp) (by simp [hn]) (Nat.zero_le _) rfl) ?_
  · refine ⟨fun id hid => ?_, by show S.next ≤ S.next + 1 + 2; omega⟩
    simp only [get_set_ne _ _ (show id ≠ S.next by omega), get_set_ne _ _ (show id ≠ S.next + 1 by omega), get_set_ne _ _ (show id ≠ S.next + 2 by omega)]
  · simp only [get_set_ne _ _ (show S.next ≠ S.next + 1 by omega), get_set_ne _ _ (show S.next ≠ S.next + 2 by omega), get_set_same]
  · exact get_set_same _ _ _
  · exact ⟨S.next + 1, [], 0, rfl, by show S.next + 1 < S.next + 1 + 2; omega, by simp only [get_set_ne _ _ (show S.next + 1 ≠ S.next + 2 by omega), get_set_same], rfl⟩
  · exact Nat.le_refl _
  rintro k F' S' hn' ⟨i, m, h1, h2, h3, h4, h5, h6, s1, s3, s9, s10, s11, hn, hi, hk⟩
  clear hn' s0
  by_cases hi' : i < l.length
  · have hx : l[i]? = some (l[i]'hi') := List.getElem?_eq_getElem _
    generalize l[i]'hi' = x at hx
    have hit := h.sub h1
    have hlo := loadT_el (cx := C0) (e := 42) hit.sl encI_len (by omega) hx ag42 sz42
    have hA : Sub S' ⟨(S'.h.set S'.next (.row [.int .u64 0, .int .u64 0, .str [], .nils] 0 0 false 42)).set S'.next (.row (encI x) 0 0 false 42), S'.next + 1⟩ := sub1s
    have hB : (⟨(S'.h.set S'.next (.row [.int .u64 0, .int .u64 0, .str [], .nils] 0 0 false 42)).set S'.next (.row (encI x) 0 0 false 42), S'.next + 1⟩ : AS).h.get S'.next = some (.row (encI x) 0 0 false 42) := get_set_same _ _ _
    have h4A : Mp ⟨(S'.h.set S'.next (.row [.int .u64 0, .int .u64 0, .str [], .nils] 0 0 false 42)).set S'.next (.row (encI x) 0 0 false 42), S'.next + 1⟩ (.map (S.next + 1)) (fun s : List Nat => AV.str s) (encP m) := Mp.agree h4 (fun id e => hA.h id (by have := Mp.lt h4; omega)) hA.next
    have h2A := (hA.h _ (by omega)).trans h2
    have h3A := (hA.h _ (by omega)).trans h3
    obtain ⟨T, e1, g1, g2, g3⟩ := update_mp (cx := C0) (t := 228) (v := .int .i64 (i : Int)) (k := x.key) mk228 keyStr h4A
    rw [mput_encP] at g1
    have lk := lookup_mp (cx := C0) (t := 228) (k := x.key) (ok := true) mk228 keyStr h4A
    rw [mget_encP] at lk
    have hTA : ∀ id, id ≠ S.next + 1 → T.h.get id = (⟨(S'.h.set S'.next (.row [.int .u64 0, .int .u64 0, .str [], .nils] 0 0 false 42)).set S'.next (.row (encI x) 0 0 false 42), S'.next + 1⟩ : AS).h.get id := fun id hid => g2 id (by simp [bnd]; omega)
    have hT : Sub S T := ⟨fun id hid => by rw [hTA id (by omega), hA.h id (by have := h1.next; omega)]; exact h1.h id hid, by rw [g3]; exact Nat.le_trans h1.next hA.next⟩
    have t2 := (hTA S.next (by omega)).trans h2A
    have t3 := (hTA (S.next + 2) (by omega)).trans h3A
    have tn : S.next + 3 ≤ T.next := by rw [g3]; show S.next + 3 ≤ S'.next + 1; omega
    have hw := wrap_succ (i := i) (by omega)
    have hxu := (hit.att x (List.mem_of_getElem? hx)).sl.cells
    have hxk := okW_sl (hit.att x (List.mem_of_getElem? hx)).sl
    have hitA := hit.sub hA
    have n1 : ¬ S.next = S'.next := by omega
    have n2 : ¬ S.next + 2 = S'.next := by omega
    have n3 : ¬ S.next + 1 = S'.next := by omega
    simp only [encI] at hlo hB h2A h3A e1 lk hitA
    cases hg : sget m x.key with
    | none =>
      rw [hg] at lk
      simp at lk e1
      simp [s1, s3, s9, s10, s11, hi', u1, u2, uok, hlo, hxu, hxk, h3, n1, n2, n3, lk]
      refine still_ok (n := 43) (by kernel_rfl) (by simp [hn]) ?_
      simp [s1, s3, s9, s10, s11, hi', u1, u2, uok, hlo, hxu, hxk, h3, n1, n2, n3, lk, e1]
      exact ⟨l.length - (i + 1), by omega, compH_mk (i + 1) (sput m x.key i) hT t2 t3 g1 (sput_all h5 hi') tn (by simp [s1]) (by simp [s3]) (by simp [s9]) (by simp [s10]) (by simp [hw]) (by simp [hn]) hi' rfl⟩
    | some n =>
      have hnl := h5 _ (sget_mem hg)
      simp only at hnl
      have hxn : l[n]? = some (l[n]'hnl) := List.getElem?_eq_getElem _
      generalize l[n]'hnl = y at hxn
      have hpp := isP_pAt (k := n) u1 (by rw [u2]; exact hnl)
      have hlp := loadT_elf (cx := C0) (e := 31) (o := 0) (y := .int .u64 y.n) hitA.sl encI_len (by omega) hxn rfl ag31
      rw [hg] at lk
      simp at lk e1 hlp
      by_cases hq : (y.n : Int) ≤ x.n
      · simp [s1, s3, s9, s10, s11, hi', u1, u2, uok, hlo, hxu, hxk, h3, n1, n2, n3, lk]
        refine still_ok (n := 43) (by kernel_rfl) (by simp [hn]) ?_
        simp [s1, s3, s9, s10, s11, hi', u1, u2, uok, hlo, hxu, hxk, h2, h3, n1, n2, n3, lk, e1, hnl, hlp, fieldP_add hpp, okV_addP, hq]
        exact ⟨l.length - (i + 1), by omega, compH_mk (i + 1) (sput m x.key i) hT t2 t3 g1 (sput_all h5 hi') tn (by simp [s1]) (by simp [s3]) (by simp [s9]) (by simp [s10]) (by simp [hw]) (by simp [hn]) hi' rfl⟩
      · simp [s1, s3, s9, s10, s11, hi', u1, u2, uok, hlo, hxu, hxk, h3, n1, n2, n3, lk]
        refine still_ok (n := 43) (by kernel_rfl) (by simp [hn]) ?_
        simp [s1, s3, s9, s10, s11, hi', u1, u2, uok, hlo, hxu, hxk, h2, h3, n1, n2, n3, lk, e1, hnl, hlp, fieldP_add hpp, okV_addP, hq]
        exact ⟨l.length - (i + 1), by omega, compH_mk (i + 1) m (h1.trans hA) h2A h3A h4A h5 (by show S.next + 3 ≤ S'.next + 1; omega) (by simp [s1]) (by simp [s3]) (by simp [s9]) (by simp [s10]) (by simp [hw]) (by simp [hn]) hi' rfl⟩
  · simp [s1, s3, s9, s10, s11, hi', u1, u2]
    exact ⟨h1, h.sub h1, h2, ⟨_, m, h3, h4, h5⟩, by omega, by omega⟩
end Go.Proofs.YtedonhemfhfbaaaGreat.mod

namespace Go.Proofs.YtedonhemfhfbaaaGreat.mod
open Go Go.Am
set_option linter.unusedVariables false
set_option linter.unusedSimpArgs false

theorem nt92 : Tryz.f92.ntmps = 28 := by kernel_rfl
def dblH (V : AS) (u g : AV) (l : List ItemG) (k : Nat) (F' : Fr) (S' : AS) : Prop :=
  ∃ (i : Nat) (v : AV) (op : List Nat), Sub V S' ∧ Gw S' v 1 31 (natL op) ∧ (bnd v = 0 ∨ V.next < bnd v) ∧ op.length ≤ i ∧ sl F' 3 = v ∧ sl F' 4 = g ∧ sl F' 9 = u ∧ sl F' 10 = .int .i64 l.length ∧ sl F' 11 = .int .i64 i ∧ F'.n = 28 ∧ i ≤ l.length ∧ k = l.length - i
theorem dblH_mk {V : AS} {u g : AV} {l : List ItemG} {k : Nat} {F' : Fr} {S' : AS} (i : Nat) (v : AV) (op : List Nat) (h1 : Sub V S') (h2 : Gw S' v 1 31 (natL op)) (h3 : bnd v = 0 ∨ V.next < bnd v) (h4 : op.length ≤ i) (h5 : sl F' 3 = v) (h6 : sl F' 4 = g) (h7 : sl F' 9 = u) (h8 : sl F' 10 = .int .i64 l.length) (h9 : sl F' 11 = .int .i64 i) (h10 : F'.n = 28) (h11 : i ≤ l.length) (h12 : k = l.length - i) :
    dblH V u g l k F' S' := ⟨i, v, op, h1, h2, h3, h4, h5, h6, h7, h8, h9, h10, h11, h12⟩
set_option maxRecDepth 20000 in
theorem doubles92 {S : AS} {u : AV} {l : List ItemG} (h : ItemsAt S u l) : CallW C0 92 [u] S fun r T => Sub S T ∧ (bnd r = 0 ∨ S.next < bnd r) ∧ ∃ d : Array Nat, d.size ≤ 1048576 ∧ NumAt T r d := by
  obtain ⟨r, V, ⟨hV, rfl, hP⟩, e1⟩ := (parted137 h).ex
  have u1 := h.sl.sl
  have u2 := h.sl.len_flat encI_len (by omega)
  have uc := h.sl.cells
  have uok := h.sl.ok
  have uk := okW_sl h.sl
  have hle := h.le
  refine enterW (pu0 _) (pr0 _ rfl) fn92 rfl ok92 (by simp) fun F hn hs => ?_
  rw [nt92] at hn
  have s0 := hs 0
  clear hs
  simp only [List.getElem?_cons_zero, List.getElem?_cons_succ, Option.getD_some] at s0
  simp [s0, uc, uk, u1, u2, uok, e1, ex0]
  refine loopP_of (dblH V u (.func (.func 177) [] [.ptr S.next 0 0 1, .ptr (S.next + 2) 0 0 1]) l) l.length (dblH_mk 0 .nils [] (Sub.refl _) Gw.nil (.inl rfl) (Nat.le_refl _) (by simp) (by simp) (by simp) (by simp) (by simp) (by simp [hn]) (Nat.zero_le _) rfl) ?_
  rintro k F' S' hn' ⟨i, v, op, h1, h2, h3, h4, s3, s4, s9, s10, s11, hn, hi, hk⟩
  clear hn' s0
  have vok := okW_sl h2.1
  have vc := h2.1.cells
  by_cases hi' : i < l.length
  · have hx : l[i]? = some (l[i]'hi') := List.getElem?_eq_getElem _
    generalize l[i]'hi' = x at hx
    have hPS := hP.sub h1
    have hit := hPS.items
    have hlo := loadT_el (cx := C0) (e := 42) hit.sl encI_len (by omega) hx ag42 sz42
    have hA : Sub S' ⟨(S'.h.set S'.next (.row [.int .u64 0, .int .u64 0, .str [], .nils] 0 0 false 42)).set S'.next (.row (encI x) 0 0 false 42), S'.next + 1⟩ := sub1s
    have hB : (⟨(S'.h.set S'.next (.row [.int .u64 0, .int .u64 0, .str [], .nils] 0 0 false 42)).set S'.next (.row (encI x) 0 0 false 42), S'.next + 1⟩ : AS).h.get S'.next = some (.row (encI x) 0 0 false 42) := get_set_same _ _ _
    obtain ⟨r, T, ⟨rfl, b, rfl⟩, e2⟩ := (goes177 (i := i) (hPS.sub hA) hi').ex
    have h2A : Gw ⟨(S'.h.set S'.next (.row [.int .u64 0, .int .u64 0, .str [], .nils] 0 0 false 42)).set S'.next (.row (encI x) 0 0 false 42), S'.next + 1⟩ v 1 31 (natL op) := h2.agree (fun id e => hA.h id (by have := h2.1.old; omega)) hA.next
    have hw := wrap_succ (i := i) (by omega)
    have hxu := (hit.att x (List.mem_of_getElem? hx)).sl.cells
    have hxk := okW_sl (hit.att x (List.mem_of_getElem? hx)).sl
    simp only [encI] at hlo hB e2 h2A hA
    cases b with
    | false =>
      simp [s3, s4, s9, s10, s11, hi', u1, u2, uok, hlo, hxu, hxk, e2, ex0, vok, vc]
      exact ⟨l.length - (i + 1), by omega, dblH_mk (i + 1) v op (h1.trans hA) h2A h3 (by omega) (by simp [s3]) (by simp [s4]) (by simp [s9]) (by simp [s10]) (by simp [hw]) (by simp [hn]) hi' rfl⟩
    | true =>
      obtain ⟨v', W, e3, r1, r2, r3⟩ := app_num x.n h2A (by omega)
      simp at e3
      simp [s3, s4, s9, s10, s11, hi', u1, u2, uok, hlo, hxu, hxk, e2, ex0, vok, vc, e3, r1.1.cells, r1.1.np]
      have hW : Sub V W := ⟨fun id hid => by rw [r2.h id (by show id < S'.next + 1; have := h1.next; omega) (fun e => by omega)]; exact (h1.trans hA).h id hid, Nat.le_trans (h1.trans hA).next r2.next⟩
      have hVS := h1.next
      exact ⟨l.length - (i + 1), by omega, dblH_mk (i + 1) v' (op ++ [x.n]) hW r1 (by
        rcases r3 with h | h
        · rw [h]; exact h3
        · right; have h : S'.next + 1 < bnd v' := h; omega) (by simp; omega) (by simp) (by simp [s4]) (by simp [s9]) (by simp [s10]) (by simp [hw]) (by simp [hn]) hi' rfl⟩
  · obtain ⟨r, T, ⟨rfl, d', g1, g2, g3, g4⟩, e2⟩ := (sort_sort (S := S') (v := v) (d := op.toArray) ⟨h2⟩ (by show op.length ≤ _; omega)).ex
    simp [s3, s4, s9, s10, s11, hi', u1, u2, vok, vc, e2, ex0, h2.1.np]
    have hn1 := hV.next
    have hn2 := h1.next
    refine ⟨⟨fun id hid => by rw [g4.h id (by omega) (fun e => by omega)]; exact (hV.trans h1).h id hid, Nat.le_trans (hV.trans h1).next g4.next⟩, ?_, d', by rw [g1.1]; show op.length ≤ _; omega, g3⟩
    rcases h3 with h | h
    · exact .inl h
    · right; omega
theorem rule93 {S : AS} {B : Nat} {v : AV} {d : Array Nat} (h : S.h.get B = some (.row [v] 0 0 false 66)) (hv : NumAt S v d) (hsz : d.size ≤ 1048576) (n : Nat) : CallW C0 93 [.int .u64 n, .ptr B 0 0 1] S fun r T => r = .bool (hasN d n) ∧ T = S := by
  have e1 := fun Q => contains94 (n := n) hv hsz (Q := Q)
  have vk := hv.ok
  refine enterW (pu0 _) (pr0 _ rfl) fn93 rfl ok93 (by simp) fun F hn hs => ?_
  have s0 := hs 0
  have s1 := hs 1
  clear hs
  simp only [List.getElem?_cons_zero, List.getElem?_cons_succ, Option.getD_some] at s0 s1
  simp [s0, s1, h, e1, ex0, vk]
theorem which91 {S : AS} {u : AV} {l : List ItemG} (hx : ItemsAt S u l) : CallW C0 91 [u] S fun r T => (∃ P, RuleAt S.next T r P) ∧ Sub S T := by
  obtain ⟨v, T, ⟨hT, hb, d, hd, hv⟩, e1⟩ := (doubles92 hx).ex
  have uc := hx.sl.cells
  have uk := okW_sl hx.sl
  have vk := hv.ok
  have vc := hv.gw.1.cells
  refine enterW (pu0 _) (pr0 _ rfl) fn91 rfl ok91 (by simp) fun F hn hs => ?_
  have s0 := hs 0
  clear hs
  simp only [List.getElem?_cons_zero, List.getElem?_cons_succ, Option.getD_some] at s0
  have hA : Sub T ⟨(T.h.set T.next (.row [.nils] 0 0 false 66)).set T.next (.row [v] 0 0 false 66), T.next + 1⟩ := sub1s
  simp [s0, uc, uk, e1, ex0, vk, vc, hT.trans hA]
  have hvA := hv.sub hA
  refine ⟨fun n => hasN d n, 93, [.ptr T.next 0 0 1], rfl, rfl, by kernel_rfl, by kernel_rfl, rfl, fun V hV hVn n => ?_⟩
  have hTn : S.next ≤ T.next := hT.next
  have hg : V.h.get T.next = some (.row [v] 0 0 false 66) := by rw [hV _ hT.next (Nat.lt_succ_self _)]; exact get_set_same _ _ _
  have hvV : NumAt V v d := ⟨hvA.gw.agree (fun id e => hV id (by omega) (by have := hvA.gw.1.old; show id < T.next + 1; have h2 : bnd v ≤ T.next + 1 := this; omega)) hVn⟩
  obtain ⟨r, W, ⟨rfl, rfl⟩, e2⟩ := (rule93 hg hvV hd n).ex
  rw [e2]
  exact ⟨rfl, Sub.refl _⟩
theorem HistAt.setDur {S : AS} {h : Nat} {v : AV} {L : List Kept} {d : Nat} (hh : HistAt S h v L d) {n : Nat} (hn : n ≤ L.length) :
    HistAt ⟨S.h.set h (.row [.bool true, v, .int .i64 n] 0 0 false 140), S.next⟩ h v L n :=
  ⟨hh.lt, get_set_same _ _ _, hh.gw.agree (fun id e => get_set_ne _ _ (fun e2 => hh.self (by rw [e, e2]))) (Nat.le_refl _),
    fun k hk => ⟨(hh.att k hk).sl.beside (hh.apart k hk).1 (Nat.le_refl _), (hh.att k hk).le⟩, hh.apart, hh.self, hn, hh.le⟩
/-- Compact: all lies, then some goes. -/
theorem compact32 {S : AS} {h : Nat} {v : AV} {L : List Kept} {dur : Nat} (hh : HistAt S h v L dur) :
    CallW C0 32 [.ptr h 0 0 3] S fun r T => ∃ (x y : Nat) (L' : List Kept), r = .tuple [.int .i64 x, .int .i64 y] ∧ GoesTo L L.length x y L' ∧ HistAt T h v L' L.length ∧ Keep (fun id => id = h ∨ bnd v = id + 1) S T := by
  have h1 := hh.setDur (Nat.le_refl L.length)
  obtain ⟨r, T, ⟨x, y, L', rfl, g1, g2, g3⟩, e1⟩ := (goes65 h1 (fw := 91) (capsw := []) rfl (by kernel_rfl) (fun W u hW hu => which91 hu)).ex
  have u1 := hh.gw.1.sl
  have u2 := hh.len
  refine enterW (pu0 _) (pr0 _ rfl) fn32 rfl ok32 (by simp) fun F hn hs => ?_
  have s0 := hs 0
  clear hs
  simp only [List.getElem?_cons_zero, List.getElem?_cons_succ, Option.getD_some] at s0
  simp [s0, none63 hh, hh.at_, u1, u2, e1, ex0]
  refine ⟨x, y, ⟨rfl, rfl⟩, L', g1, g2, ⟨fun id i1 i2 => ?_, g3.next⟩⟩
  rw [g3.h id i1 (fun e => i2 (.inr e))]
  exact get_set_ne _ _ (fun e => i2 (.inl e))
end Go.Proofs.YtedonhemfhfbaaaGreat.mod

namespace Go.Proofs.YtedonhemfhfbaaaGreat.mod
open Go Go.Am
set_option linter.unusedVariables false
set_option linter.unusedSimpArgs false

/-! ### A slice cut with its room -/
def subX (v : AV) (k : Nat) : AV := match v with
  | .slice id g off _ lim sz _ => cutV id g off lim sz 0 k k
  | v => v
theorem sliceV_max {cx : Am.Cx} {F : Fr} {t : TypeId} {p : Nat × Nat × Nat} {v : AV} {hi mx : Operand} {k : Nat} (h : slT cx t = some p) (hv : isSl p.2.1 v = true) (hh : bound F (some hi) (sLen v) = some k) (hm : bound F (some mx) 0 = some k) (h2 : k ≤ sLen v) :
    sliceV cx F t v none (some hi) (some mx) = some (subX v k) := by
  obtain ⟨hu, hs, _⟩ := slT_und h
  rw [bound_some] at hh hm
  cases v <;> simp only [isSl, Bool.false_eq_true] at hv
  · have hk : k = 0 := by simpa [sLen] using h2
    subst hk
    have hb : bounds F 0 0 none (some hi) (some mx) = some (0, 0, 0) := by
      unfold bounds
      rw [bound_none, bound_some, bound_some, hh, hm]
      rfl
    unfold sliceV
    simp only [hu, hs, hb]
    rfl
  · rename_i id g off len lim z cap
    simp only [Bool.and_eq_true, decide_eq_true_eq] at hv
    obtain ⟨hz, hc⟩ := hv
    subst hz
    simp only [sLen] at h2
    have hr : k ≤ roomOf len cap := by
      cases cap with
      | none => exact h2
      | some c => simp only [capB, decide_eq_true_eq] at hc; show k ≤ c; omega
    have hb : bounds F len (roomOf len cap) none (some hi) (some mx) = some (0, k, k) := by
      unfold bounds
      rw [bound_none, bound_some, bound_some, hh, hm]
      simp [nble, hr, isS]
    unfold sliceV
    simp only [hu, hs, hb, nbeq, decide_true, cond_true, isS, Bool.true_or]
    rfl
theorem sl_recap {S : AS} {id g off n lim sz : Nat} {cap cap' : Option Nat} {cs : List AV} (h : Sl S (.slice id g off n lim sz cap) sz cs) (hc : capB n cap' = true) : Sl S (.slice id g off n lim sz cap') sz cs :=
  ⟨by simp [isSl, hc], h.rd, h.len, h.old⟩
theorem gw_cutX {S : AS} {v : AV} {sz e k : Nat} {cs : List AV} (h : Gw S v sz e cs) (hk : k ≤ sLen v) : Gw S (subX v k) sz e (cs.take (k * sz)) ∧ bnd (subX v k) = bnd v := by
  obtain ⟨h1, h2⟩ := h
  rcases h2 with rfl | ⟨id, g, off, n, lim, cap, rfl, hcp, hlt, hr⟩
  · have : k = 0 := by simpa [sLen] using hk
    subst this
    have h3 : cs = [] := List.length_eq_zero_iff.1 (by rw [h1.len]; simp [sLen])
    subst h3
    simp only [List.take_nil]
    exact ⟨⟨Sl.nil, .inl rfl⟩, rfl⟩
  · have hs := (sl_recap (cap' := none) h1 rfl).cut (Nat.zero_le k) hk
    rw [Nat.zero_mul, List.drop_zero, Nat.sub_zero] at hs
    have e1 : subA (.slice id g off n lim sz none) 0 k = .slice id g off k lim sz none := by simp [subA]
    rw [e1] at hs
    have e2 : subX (.slice id g off n lim sz cap) k = .slice id g off k lim sz (some k) := by
      by_cases h0 : k = 0
      · subst h0; rfl
      · simp [subX, cutV, nbeq, h0, forceN_eq]
    rw [e2]
    exact ⟨⟨sl_recap hs (by simp [capB]), .inr ⟨id, g, off, k, lim, some k, rfl, by simp [capN], hlt, hr⟩⟩, rfl⟩
theorem nt31 : Tryz.f31.ntmps = 49 := by kernel_rfl
section
variable {S : AS} {h : Nat} {v : AV} {L : List Kept} {dur : Nat}
theorem HistAt.cut (hh : HistAt S h v L dur) {n : Nat} (hn : n ≤ L.length) : HistAt ⟨S.h.set h (.row [.bool true, subX v n, .int .i64 n] 0 0 false 140), S.next⟩ h (subX v n) (L.take n) n := by
  obtain ⟨g1, g2⟩ := gw_cutX (k := n) hh.gw (by rw [hh.len]; exact hn)
  rw [fm_take encK_len] at g1
  refine ⟨hh.lt, get_set_same _ _ _, g1.agree (fun id e => get_set_ne _ _ (fun e2 => hh.self (by rw [← g2, e, e2]))) (Nat.le_refl _), fun k hk => ?_, fun k hk => ?_, ?_, ?_, ?_⟩
  · exact ⟨(hh.att k (List.mem_of_mem_take hk)).sl.beside (hh.apart k (List.mem_of_mem_take hk)).1 (Nat.le_refl _), (hh.att k (List.mem_of_mem_take hk)).le⟩
  · rw [g2]; exact hh.apart k (List.mem_of_mem_take hk)
  · rw [g2]; exact hh.self
  · rw [List.length_take]; omega
  · have := hh.le; rw [List.length_take]; omega
theorem crash31 (hh : HistAt S h v L dur) {n : Nat} (hn4 : n ≤ 4) : CallW C0 31 [.ptr h 0 0 3, .int .i64 n] S fun r T => (L.length < dur + n ∧ r = .bool false ∧ T = S) ∨
    (dur + n ≤ L.length ∧ r = .bool true ∧ HistAt T h (subX v (dur + n)) (L.take (dur + n)) (dur + n) ∧ Keep (fun id => id = h) S T) := by
  have u1 := hh.gw.1.sl
  have u2 := hh.len
  have hd := hh.dur
  have hl := hh.le
  have uok := hh.gw.1.ok
  have hw1 : IntKind.i64.wrap ((L.length : Int) - dur) = (L.length : Int) - dur := IntWalk.i64_in _ (by omega)
  have hw2 : IntKind.i64.wrap ((dur : Int) + n) = ((dur + n : Nat) : Int) := by rw [IntWalk.i64_in _ (by omega)]; omega
  refine enterW (pu0 _) (pr0 _ rfl) fn31 rfl ok31 (by simp) fun F hn hs => ?_
  rw [nt31] at hn
  have s0 := hs 0
  have s1 := hs 1
  clear hs
  simp only [List.getElem?_cons_zero, List.getElem?_cons_succ, Option.getD_some] at s0 s1
  have q0 : ¬ ((n : Int) < 0) := by omega
  simp [s0, s1, hn]
  refine draws [.p, .e [], .p, .p, .p, .p, .p, .p, .p, .p, .p, .r 0 0, .r 0 0, .p, .p, .p, .r 0 0, .p, .p, .p] (n := 49) (by kernel_rfl) (by simp [hn]) ?_
  by_cases hq : dur + n ≤ L.length
  · have q1 : ¬ ((L.length : Int) - dur < n) := by omega
    have hh1 := hh.setDur hq
    have hh2 := hh1.cut hq
    have a1 := hh1.at_
    have hsl := fun (F : Fr) (hi mx : Operand) (a : bound F (some hi) (sLen v) = some (dur + n)) (b : bound F (some mx) 0 = some (dur + n)) => sliceV_max (cx := C0) (t := 138) (p := (142, 4, 56)) st138 u1 a b (by rw [u2]; exact hq)
    have hok : okV (subX v (dur + n)) = true := hh2.gw.1.ok
    have hc := hh2.gw.1.cells
    simp only [Int.natCast_add] at a1 hw2 hh2
    simp [s0, s1, none63 hh, ex0, hh.at_, u1, u2, hw1, q0, q1, hw2, hn, uok]
    refine draws [.p, .p, .p, .p, .r 0 0, .p, .p, .p, .r 0 0, .p, .p, .p, .r 0 0, .p, .p, .p, .e []] (n := 49) (by kernel_rfl) (by simp [hn]) ?_
    have hb : ∀ (F : Fr) (x : Tmp) (d : Nat), sl F x = .int .i64 ((dur : Int) + n) → bound F (some (.tmp x)) d = some (dur + n) := fun F x d h => by
      rw [bound_some, eval_tmp, h]
      rw [show ((dur : Int) + n) = ((dur + n : Nat) : Int) by omega]
      exact natOf_nat
    simp [s0, s1, a1, u1, u2, uok, hsl, hb, hok, hc]
    exact ⟨hq, hh2, ⟨fun id h1 h2 => (get_set_ne _ _ h2).trans (get_set_ne _ _ h2), Nat.le_refl _⟩⟩
  · have q1 : ((L.length : Int) - dur < n) := by omega
    simp [s0, s1, none63 hh, ex0, hh.at_, u1, u2, hw1, q0, q1]
    omega
end
theorem clone90 {S : AS} {v : AV} {cs : List AV} (h : Sl S v 4 cs) (hf : sLen v ≤ 1048576) : CallW C0 90 [v] S fun v' T => Sub S T ∧ Gw T v' 4 142 cs ∧ sLen v' = sLen v ∧ (bnd v' = 0 ∨ S.next < bnd v') := by
  refine enterW (pu0 _) (pr0 _ rfl) fn90 rfl ok90 (by simp) fun F hn hs => ?_
  have s0 := hs 0
  clear hs
  simp only [List.getElem?_cons_zero, Option.getD_some] at s0
  have h2 := h.sl
  cases hnil : isNil v with
  | true =>
    obtain ⟨rfl, rfl⟩ := h.isNil hnil
    simp [s0, Sub.refl, Gw.nil, bnd]
  | false =>
    have hx : Sl (⟨S.h.set S.next (.row [] 0 0 false 142), S.next + 1⟩ : AS) v 4 cs := ⟨h2, by rw [rdS_set h.old]; exact h.rd, h.len, Nat.le_succ_of_le h.old⟩
    have hfit : fits (sLen (.slice S.next 0 0 0 0 4 (some 0)) + sLen v) 56 = true := by simp [fits, nble, sLen_slice]; omega
    obtain ⟨v', T, e1, r1, r2, r3, r4, r5, r6, r7⟩ := append_gw (ts := []) st138 un138 rfl (Gw.fresh (get_set_same _ _ _) (Nat.lt_succ_self _)) hx hfit
    rw [List.nil_append] at r1
    have hsub : Sub S T := ⟨fun id hi => by rw [r2 id (Nat.lt_succ_of_lt hi) (by simp [bnd]; omega)]; exact get_set_ne _ _ (by omega), Nat.le_trans (Nat.le_succ _) r3⟩
    have r4' : sLen v' = sLen v := by rw [r4]; simp [sLen_slice]
    simp [s0, h2, hnil, e1, r1.1.np, hsub, r1]
    refine ⟨r4', ?_⟩
    rcases r6 with r6 | r6
    · rw [r6]; exact .inr (Nat.lt_succ_self _)
    · exact .inr (Nat.lt_of_succ_lt r6)
theorem bld140k {u : AV} {cs : List AV} {T : AS} (hu : Sl T u 4 cs) (n : Int) : buildA C0 140 [(0, .bool true), (1, u), (2, .int .i64 n)] = some (.agg [.bool true, u, .int .i64 n]) := by
  rcases hu.cases with rfl | ⟨_, _, _, _, _, _, rfl⟩ <;> kernel_rfl
theorem nt28 : Tryz.f28.ntmps = 18 := by kernel_rfl
section
variable {S : AS} {h : Nat} {v : AV} {L : List Kept} {dur : Nat}
set_option maxRecDepth 20000 in
/-- Copy: another history, alike. -/
theorem copy28 (hh : HistAt S h v L dur) : CallW C0 28 [.ptr h 0 0 3] S fun r T => ∃ (h' : Nat) (v' : AV), r = .ptr h' 0 0 3 ∧ Sub S T ∧ HistAt T h' v' L dur ∧ S.next ≤ h' ∧ (bnd v' = 0 ∨ S.next < bnd v') := by
  obtain ⟨v', T, ⟨hT, g1, g2, g3⟩, e1⟩ := (clone90 hh.gw.1 (by rw [hh.len]; exact hh.le)).ex
  have uok := hh.gw.1.ok
  have uk := okW_sl hh.gw.1
  have hhT := hh.sub hT
  refine enterW (pu0 _) (pr0 _ rfl) fn28 rfl ok28 (by simp) fun F hn hs => ?_
  rw [nt28] at hn
  have s0 := hs 0
  clear hs
  simp only [List.getElem?_cons_zero, List.getElem?_cons_succ, Option.getD_some] at s0
  simp [s0, none63 hh, ex0, hn]
  refine draws [.p, .p, .p, .r 0 0, .e [], .p, .p, .p, .r 1 0, .p, .e [], .p] (n := 18) (by kernel_rfl) (by simp [hn]) ?_
  have b1 := bld140k g1.1 (dur : Int)
  simp [s0, hh.at_, uok, uk, e1, ex0, hhT.at_, b1]
  have hA : Sub T ⟨T.h.set T.next (.row [.bool true, v', .int .i64 dur] 0 0 false 140), T.next + 1⟩ := sub1
  have hTn := hT.next
  have hgo := g1.1.old
  have hb : ∀ k, k ∈ L → bnd k.u ≤ S.next := fun k hk => (hh.att k hk).sl.old
  exact ⟨hT.trans hA, v', ⟨Nat.lt_succ_self _, get_set_same _ _ _, g1.agree (fun id e => hA.h id (by omega)) hA.next, fun k hk => ((hhT.att k hk).sub hA), fun k hk => ⟨by have := hb k hk; omega, by have := hb k hk; omega⟩, by omega, hh.dur, hh.le⟩, hTn, g3⟩
end
end Go.Proofs.YtedonhemfhfbaaaGreat.mod

namespace Go.Proofs.YtedonhemfhfbaaaGreat.mod
open Go Go.Am
set_option linter.unusedVariables false
set_option linter.unusedSimpArgs false

theorem nt33 : Tryz.f33.ntmps = 38 := by kernel_rfl
def sm3H (V : AS) (a b : Nat) (l : List Att) (k : Nat) (F' : Fr) (S' : AS) : Prop :=
  S' = V ∧ ∃ i : Nat, sl F' 2 = .ptr a 0 0 2 ∧ sl F' 3 = .ptr b 0 0 2 ∧ sl F' 5 = .int .i64 i ∧ F'.n = 38 ∧ i ≤ l.length ∧ k = l.length - i
set_option maxRecDepth 20000 in
theorem same33 {S : AS} {u v : AV} {l : List Att} {key : List Nat} (hu : AttsAt S u l) (hv : AttsAt S v l) : CallW C0 33 [.agg [.str key, u], .agg [.str key, v]] S fun r T => r = .bool true ∧ Sub S T := by
  have hV : Sub S ⟨(S.h.set S.next (.row [.str key, u] 0 0 false 40)).set (S.next + 1) (.row [.str key, v] 0 0 false 40), S.next + 2⟩ := sub2
  have g1 : (⟨(S.h.set S.next (.row [.str key, u] 0 0 false 40)).set (S.next + 1) (.row [.str key, v] 0 0 false 40), S.next + 2⟩ : AS).h.get S.next = some (.row [.str key, u] 0 0 false 40) := by
    show ((S.h.set _ _).set _ _).get _ = _
    rw [get_set_ne _ _ (by omega), get_set_same]
  have g2 : (⟨(S.h.set S.next (.row [.str key, u] 0 0 false 40)).set (S.next + 1) (.row [.str key, v] 0 0 false 40), S.next + 2⟩ : AS).h.get (S.next + 1) = some (.row [.str key, v] 0 0 false 40) := get_set_same _ _ _
  have hu2 := hu.sub hV
  have hv2 := hv.sub hV
  have u1 := hu.sl.sl
  have u2 := hu.sl.len_flat encA_len (by omega)
  have uc := hu.sl.cells
  have uok := hu.sl.ok
  have v1 := hv.sl.sl
  have v2 := hv.sl.len_flat encA_len (by omega)
  have vc := hv.sl.cells
  have vok := hv.sl.ok
  have hle := hu.le
  refine enterW (pu0 _) (pr0 _ rfl) fn33 rfl ok33 (by simp) fun F hn hs => ?_
  rw [nt33] at hn
  have s0 := hs 0
  have s1 := hs 1
  clear hs
  simp only [List.getElem?_cons_zero, List.getElem?_cons_succ, Option.getD_some] at s0 s1
  simp [s0, s1, uc, vc, uok, vok, u1, u2, v1, v2, eqS_eq]
  refine loopP_of (sm3H ⟨(S.h.set S.next (.row [.str key, u] 0 0 false 40)).set (S.next + 1) (.row [.str key, v] 0 0 false 40), S.next + 2⟩ S.next (S.next + 1) l) l.length ⟨rfl, 0, by simp, by simp, by simp, by simp [hn], Nat.zero_le _, rfl⟩ ?_
  rintro k F' S' hn' ⟨rfl, i, s2, s3, s5, hn, hi, hk⟩
  clear hn' s0 s1
  by_cases hi' : i < l.length
  · have hx : l[i]? = some (l[i]'hi') := List.getElem?_eq_getElem _
    generalize l[i]'hi' = x at hx
    have hw := wrap_succ (i := i) (by omega)
    have l1 := loadT_el (cx := C0) (e := 107) hu2.sl encA_len (by omega) hx ag107 sz107
    have l2 := loadT_el (cx := C0) (e := 107) hv2.sl encA_len (by omega) hx ag107 sz107
    simp [s2, s3, s5, g1, g2, uok, vok, u1, u2, v1, v2, hi', hn]
    refine still_ok (n := 38) (by kernel_rfl) (by simp [hn]) ?_
    simp [s2, s3, s5, g1, g2, uok, vok, u1, u2, v1, v2, hi', l1, l2, nec107]
    exact ⟨rfl, l.length - (i + 1), by omega, rfl, i + 1, by simp [s2], by simp [s3], by simp [hw], by simp [hn], hi', rfl⟩
  · simp [s2, s3, s5, g1, g2, uok, vok, u1, u2, v1, v2, hi', hn]
    exact hV
section
variable {S : AS} {h : Nat} {v : AV} {L : List Kept} {d : Nat}
theorem answer_no (hh : HistAt S h v L L.length) : CallW C0 30 [.ptr h 0 0 3, .int .u64 ((L.length + 1 : Nat) : Int)] S fun r T => r = .bool false ∧ T = S := by
  have h2 := hh.le
  have hw := u64_nat (n := L.length) (by omega)
  have hw2 := u64_succ (n := L.length) (by omega)
  have u1 := hh.gw.1.sl
  have u2 := hh.len
  refine enterW (pu0 _) (pr0 _ rfl) fn30 rfl ok30 (by simp) fun F hn hs => ?_
  rw [nt30] at hn
  have s0 := hs 0
  have s1 := hs 1
  clear hs
  simp only [List.getElem?_cons_zero, List.getElem?_cons_succ, Option.getD_some] at s0 s1
  simp [s0, s1, hn]
  refine draws [.p, .e [], .p, .p, .p, .p, .r 0 0, .p, .p, .p, .r 0 0, .r 0 0, .p, .p, .p, .p, .p, .p, .p, .r 0 0, .p, .p, .p, .p] (n := 36) (by kernel_rfl) (by simp [hn]) ?_
  simp [s0, s1, hh.at_, none63 hh, ex0, u1, u2, hw, hw2]
end
end Go.Proofs.YtedonhemfhfbaaaGreat.mod

namespace Go.Proofs.YtedonhemfhfbaaaGreat.mod
open Go Go.Am
set_option linter.unusedVariables false
set_option linter.unusedSimpArgs false


/-- A history, and its copy apart. -/
structure LasAt (lo : Nat) (S : AS) (h : Nat) (v : AV) (h' : Nat) (v' : AV) (L : List Kept) (dur : Nat) : Prop where
  hh : HistAt S h v L dur
  ww : HistAt S h' v' L dur
  apart : ∀ id, histFoot h' v' L id → id ≠ h ∧ bnd v ≠ id + 1
  lo : ∀ id, histFoot h v L id → lo ≤ id
/-- How far a state may turn. -/
def Turns (L : List Kept) (dur : Nat) (L2 : List Kept) : Prop :=
  ∀ (i : Nat) (k : Kept), i < dur → L[i]? = some k → ∃ s, L2[i]? = some { k with state := s } ∧ (s = k.state ∨ s = 1 ∨ (s = 2 ∧ k.state = 0))
/-- A history behind a call. -/
structure Grown (S : AS) (h : Nat) (v : AV) (L : List Kept) (dur : Nat) (T : AS) (v2 : AV) (L2 : List Kept) (dur2 : Nat) : Prop where
  hist : HistAt T h v2 L2 dur2
  keep : Keep (fun id => id = h ∨ bnd v = id + 1) S T
  more : dur ≤ dur2
  turns : Turns L dur L2
  len : L2.length ≤ L.length + 1
  foot : ∀ id, histFoot h v2 L2 id → histFoot h v L id ∨ S.next ≤ id
section
variable {S T : AS} {lo h h' : Nat} {v v' v2 : AV} {L L2 : List Kept} {dur dur2 : Nat}
theorem LasAt.sub (o : LasAt lo S h v h' v' L dur) (hs : Sub S T) : LasAt lo T h v h' v' L dur := ⟨o.hh.sub hs, o.ww.sub hs, o.apart, o.lo⟩
theorem lasCopy (hh : HistAt S h v L dur) (hlo : ∀ id, histFoot h v L id → lo ≤ id) : CallW C0 28 [.ptr h 0 0 3] S fun r T => ∃ (h' : Nat) (v' : AV), r = .ptr h' 0 0 3 ∧ Sub S T ∧ LasAt lo T h v h' v' L dur := by
  obtain ⟨r, T, ⟨h', v', rfl, h1, h2, h3, h4⟩, e⟩ := (copy28 hh).ex
  rw [e]
  have hl := hh.lt
  have ho := hh.gw.1.old
  refine ⟨h', v', rfl, h1, hh.sub h1, h2, fun id hf => ?_, hlo⟩
  rcases hf with rfl | e | ⟨k, hk, e⟩
  · exact ⟨by omega, by omega⟩
  · exact ⟨by omega, by omega⟩
  · have := hh.apart k hk
    exact ⟨by omega, by omega⟩
theorem LasAt.grow (o : LasAt lo S h v h' v' L dur) (g : Grown S h v L dur T v2 L2 dur2) (hlo : lo ≤ S.next) : HistAt T h' v' L dur ∧ ∀ id, histFoot h v2 L2 id → lo ≤ id :=
  ⟨o.ww.agree (fun id hf => g.keep.h id (o.ww.foot hf) (fun e => by have := o.apart id hf; omega)) g.keep.next, fun id hf => by
    rcases g.foot id hf with h | h
    · exact o.lo id h
    · omega⟩
theorem LasAt.sub0 {R : AS} (o : LasAt R.next S h v h' v' L dur) (g : Grown S h v L dur T v2 L2 dur2) (h0 : Sub R S) : Sub R T :=
  ⟨fun id hid => (g.keep.h id (Nat.lt_of_lt_of_le hid h0.next) (fun e => by
    rcases e with e | e
    · have := o.lo id (.inl e); omega
    · have := o.lo id (.inr (.inl e)); omega)).trans (h0.h id hid), Nat.le_trans h0.next g.keep.next⟩
theorem Turns.refl (L : List Kept) (dur : Nat) : Turns L dur L := fun i k _ hk => ⟨k.state, hk, .inl rfl⟩
theorem Turned.turns {D : Bool} (h : Turned D L L2) (dur : Nat) : Turns L dur L2 := fun i k _ hk => by
  obtain ⟨s, e, h⟩ := h.2 i k hk
  refine ⟨s, e, ?_⟩
  rcases h with h | h | ⟨h1, h2, _⟩
  · exact .inl h
  · exact .inr (.inl h)
  · exact .inr (.inr ⟨h1, h2⟩)
theorem grown_turned {D : Bool} {A : Nat → Prop} (h : Turned D L L2) (hT : HistAt T h' v L2 dur2) (hd : dur ≤ dur2) (hk : Keep A S T) (hA : ∀ id, A id → id = h' ∨ bnd v = id + 1) : Grown S h' v L dur T v L2 dur2 :=
  ⟨hT, hk.mono fun id _ => hA id, hd, h.turns _, by rw [h.1]; omega, fun id hf => .inl (h.foot hf)⟩
theorem grown_refl (hh : HistAt S h v L dur) : Grown S h v L dur S v L dur := ⟨hh, Keep.refl, Nat.le_refl _, Turns.refl _ _, Nat.le_succ _, fun _ hf => .inl hf⟩
/-! ### The calls -/
theorem las29 (hh : HistAt S h v L dur) {u : AV} {atts : List Att} {t : Nat} {key : List Nat} (hu : AttsAt S u atts) (hl : L.length < 1048576) :
    CallW C0 29 [.ptr h 0 0 3, .int .u64 t, .agg [.str key, u]] S fun r T => r = .int .u64 ((L.length + 1 : Nat) : Int) ∧ ∃ v2 L2, Grown S h v L dur T v2 L2 dur := by
  obtain ⟨r, T, ⟨rfl, v2, u', h1, h2, h3⟩, e⟩ := (publish29 (t := t) (key := key) hh hu hl).ex
  rw [e]
  refine ⟨rfl, v2, _, h1, h2, Nat.le_refl _, fun i k hi hk => ⟨k.state, ?_, .inl rfl⟩, by simp, h3⟩
  rw [List.getElem?_append_left (List.getElem?_eq_some_iff.1 hk).1]
  exact hk
theorem las30 (hh : HistAt S h v L dur) : CallW C0 30 [.ptr h 0 0 3, .int .u64 ((dur + 1 : Nat) : Int)] S fun r T => (dur < L.length ∧ r = .bool true ∧ Grown S h v L dur T v L (dur + 1)) ∨ (dur = L.length ∧ r = .bool false ∧ T = S) := by
  have hd := hh.dur
  by_cases hq : dur < L.length
  · obtain ⟨r, T, ⟨rfl, rfl⟩, e⟩ := (answer_yes hh hq).ex
    rw [e]
    exact .inl ⟨hq, rfl, grown_turned (A := fun id => id = h) (Turned.refl false L) (hh.answer hq) (Nat.le_succ _) ⟨fun id h1 h2 => get_set_ne _ _ h2, Nat.le_refl _⟩ (fun id => .inl)⟩
  · obtain rfl : dur = L.length := by omega
    obtain ⟨r, T, ⟨rfl, rfl⟩, e⟩ := (answer_no hh).ex
    rw [e]
    exact .inr ⟨rfl, rfl, rfl⟩
theorem las31 (hh : HistAt S h v L dur) {n : Nat} (hn4 : n ≤ 4) : CallW C0 31 [.ptr h 0 0 3, .int .i64 n] S fun r T => (L.length < dur + n ∧ r = .bool false ∧ T = S) ∨
    (dur + n ≤ L.length ∧ r = .bool true ∧ ∃ v2, Grown S h v L dur T v2 (L.take (dur + n)) (dur + n)) := by
  obtain ⟨r, T, h1, e⟩ := (crash31 hh hn4).ex
  rw [e]
  rcases h1 with h1 | ⟨h1, h2, h3, h4⟩
  · exact .inl h1
  · refine .inr ⟨h1, h2, _, h3, h4.mono (fun id _ => .inl), Nat.le_add_right _ _, fun i k hi hk => ⟨k.state, by rw [List.getElem?_take, if_pos (by omega)]; exact hk, .inl rfl⟩, by rw [List.length_take]; omega, fun id hf => ?_⟩
    have hb := (gw_cutX (k := dur + n) hh.gw (by rw [hh.len]; exact h1)).2
    rcases hf with e | e | ⟨k, hk, e⟩
    · exact .inl (.inl e)
    · exact .inl (.inr (.inl (by rw [← hb]; exact e)))
    · exact .inl (.inr (.inr ⟨k, List.mem_of_mem_take hk, e⟩))
theorem las9 (hh : HistAt S h v L dur) (a b c : Int) (now : Nat) : CallW C0 9 [.ptr h 0 0 3, .agg [.int .i64 a, .int .i64 b, .int .i64 c], .int .u64 now] S fun r T => ∃ (x y : Nat) (L2 : List Kept), r = .tuple [.int .i64 x, .int .i64 y] ∧ x ≤ y ∧ y ≤ dur ∧ Grown S h v L dur T v L2 dur := by
  obtain ⟨r, T, ⟨x, y, L2, rfl, g1, g2, g3⟩, e⟩ := (retain9 hh a b c now).ex
  rw [e]
  rcases g1 with ⟨rfl, rfl, rfl, _⟩ | ⟨g1, _⟩
  · exact ⟨0, 0, _, rfl, Nat.le_refl _, Nat.zero_le _, grown_turned (Turned.refl false _) g2 (Nat.le_refl _) g3 (fun id => .inr)⟩
  · obtain ⟨t1, t2, t3⟩ := g1.turned
    exact ⟨x, y, L2, rfl, t2, t3, grown_turned t1 g2 (Nat.le_refl _) g3 (fun id => .inr)⟩
theorem las32 (hh : HistAt S h v L dur) : CallW C0 32 [.ptr h 0 0 3] S fun r T => ∃ (x y : Nat) (L2 : List Kept), r = .tuple [.int .i64 x, .int .i64 y] ∧ Grown S h v L dur T v L2 L.length := by
  obtain ⟨r, T, ⟨x, y, L2, rfl, g1, g2, g3⟩, e⟩ := (compact32 hh).ex
  rw [e]
  exact ⟨x, y, L2, rfl, grown_turned g1.turned.1 g2 hh.dur g3 (fun _ h => h)⟩
theorem las24 (hh : HistAt S h v L dur) : CallW C0 24 [.ptr h 0 0 3] S fun r T => r = .tuple [] ∧ ∃ L2, Grown S h v L dur T v L2 dur := by
  obtain ⟨r, T, ⟨rfl, g1, g2⟩, e⟩ := (doubts24 hh).ex
  rw [e]
  exact ⟨rfl, _, grown_turned (doubtL_turned _ _) g1 (Nat.le_refl _) g2 (fun id => .inr)⟩
end
end Go.Proofs.YtedonhemfhfbaaaGreat.mod

namespace Go.Proofs.YtedonhemfhfbaaaGreat.mod
open Go Go.Am
set_option linter.unusedVariables false
set_option linter.unusedSimpArgs false

theorem nt6 : Tryz.f6.ntmps = 214 := by kernel_rfl
def lasH (S : AS) (x : AV) (l : List OpG) (k : Nat) (F' : Fr) (S' : AS) : Prop :=
  ∃ (i h : Nat) (v : AV) (L : List Kept) (dur : Nat), HistAt S' h v L dur ∧ Sub S S' ∧ (∀ id, histFoot h v L id → S.next ≤ id) ∧ L.length ≤ i ∧ sl F' 0 = x ∧ sl F' 3 = .ptr h 0 0 3 ∧ sl F' 4 = .int .i64 i ∧ F'.n = 214 ∧ i ≤ l.length ∧ k = l.length - i
theorem lasH_mk {S : AS} {x : AV} {l : List OpG} {k : Nat} {F' : Fr} {S' : AS} {i h : Nat} {v : AV} {L : List Kept} {dur : Nat} (h1 : HistAt S' h v L dur) (h2 : Sub S S') (h3 : ∀ id, histFoot h v L id → S.next ≤ id) (h4 : L.length ≤ i) (h5 : sl F' 0 = x) (h6 : sl F' 3 = .ptr h 0 0 3) (h7 : sl F' 4 = .int .i64 i) (h8 : F'.n = 214) (h9 : i ≤ l.length) (h10 : k = l.length - i) : lasH S x l k F' S' :=
  ⟨i, h, v, L, dur, h1, h2, h3, h4, h5, h6, h7, h8, h9, h10⟩
/-- Items compared. -/
def itmL (T : AS) (x : AV) (i h h' : Nat) (dur : Nat) (k : Nat) (F' : Fr) (S' : AS) : Prop :=
  ∃ j : Nat, Sub T S' ∧ sl F' 0 = x ∧ sl F' 3 = .ptr h 0 0 3 ∧ sl F' 4 = .int .i64 i ∧ sl F' 6 = .ptr h' 0 0 3 ∧ sl F' 7 = .int .u64 dur ∧ sl F' 12 = .int .u64 ((j : Int) + 1) ∧ F'.n = 214 ∧ j ≤ dur ∧ k = dur - j
theorem itmL_mk {T : AS} {x : AV} {i h h' : Nat} {dur : Nat} {k : Nat} {F' : Fr} {S' : AS} (j : Nat) (h1 : Sub T S') (h2 : sl F' 0 = x) (h3 : sl F' 3 = .ptr h 0 0 3) (h4 : sl F' 4 = .int .i64 i) (h5 : sl F' 6 = .ptr h' 0 0 3) (h6 : sl F' 7 = .int .u64 dur) (h7 : sl F' 12 = .int .u64 ((j : Int) + 1)) (h8 : F'.n = 214) (h9 : j ≤ dur) (h10 : k = dur - j) : itmL T x i h h' dur k F' S' :=
  ⟨j, h1, h2, h3, h4, h5, h6, h7, h8, h9, h10⟩
/-- Behind a call. -/
def midL (S : AS) (x : AV) (i h h' : Nat) (v' : AV) (L : List Kept) (dur : Nat) (F' : Fr) (S' : AS) : Prop :=
  ∃ (v2 : AV) (L2 : List Kept) (dur2 : Nat), HistAt S' h v2 L2 dur2 ∧ HistAt S' h' v' L dur ∧ Sub S S' ∧ (∀ id, histFoot h v2 L2 id → S.next ≤ id) ∧ dur ≤ dur2 ∧ Turns L dur L2 ∧ L2.length ≤ i + 1 ∧
    sl F' 0 = x ∧ sl F' 3 = .ptr h 0 0 3 ∧ sl F' 4 = .int .i64 i ∧ sl F' 6 = .ptr h' 0 0 3 ∧ sl F' 7 = .int .u64 dur ∧ F'.n = 214
theorem midL_mk {S W T : AS} {x : AV} {i h h' : Nat} {v v' v2 : AV} {L L2 : List Kept} {dur dur2 : Nat} {F' : Fr} (o : LasAt S.next W h v h' v' L dur) (hS : Sub S W) (g : Grown W h v L dur T v2 L2 dur2) (hL : L.length ≤ i)
    (h5 : sl F' 0 = x) (h6 : sl F' 3 = .ptr h 0 0 3) (h7 : sl F' 4 = .int .i64 i) (h8 : sl F' 6 = .ptr h' 0 0 3) (h9 : sl F' 7 = .int .u64 dur) (h10 : F'.n = 214) : midL S x i h h' v' L dur F' T :=
  ⟨v2, L2, dur2, g.hist, (o.grow g hS.next).1, o.sub0 g hS, (o.grow g hS.next).2, g.more, g.turns, by have := g.len; omega, h5, h6, h7, h8, h9, h10⟩
set_option maxRecDepth 20000 in
theorem law6 {S : AS} {x : AV} {l : List OpG} (hx : OpsAt S x l) (hev : ∀ o, o ∈ l → ∃ a, AttsAt S o.eu a) (hl : l.length ≤ 9223372036854775807) : CallW C0 6 [x] S fun r T => r = .bool true := by
  have u1 := hx.sl.sl
  have u2 := hx.sl.len_flat encO_len (by omega)
  obtain ⟨r, T0, ⟨rfl, hh0, hT0⟩, e0⟩ := (newHist (S := S)).ex
  refine enterW (pu0 _) (pr0 _ rfl) fn6 rfl ok6 (by simp) fun F hn hs => ?_
  rw [nt6] at hn
  have s0 := hs 0
  clear hs
  simp only [List.getElem?_cons_zero, Option.getD_some] at s0
  simp [s0, e0, ex0]
  refine loopP_of (lasH S x l) l.length (lasH_mk (i := 0) hh0 hT0 (fun id hf => ?_) (Nat.le_refl _) (by simp [s0]) (by simp) (by simp) (by simp [hn]) (Nat.zero_le _) rfl) ?_
  · rcases hf with e | e | ⟨k, hk, _⟩
    · omega
    · simp [bnd] at e
    · cases hk
  clear hn s0 e0 hh0 hT0 T0
  rintro k F' S' hn' ⟨i, h, v, L, dur, hh, hS, hlo, hLi, s0, s3, s4, hn, hi, hk⟩
  clear hn'
  by_cases hi' : i < l.length
  · by_cases h60 : (i : Int) < 60
    · have hxi : l[i]? = some l[i] := List.getElem?_eq_getElem hi'
      have hlo2 := loadT_el (cx := C0) (e := 60) (hx.sl.toSub hS) encO_len (by omega) hxi ag60 sz60
      obtain ⟨ok1, ok2, ok3⟩ := hx.ok _ (List.getElem_mem hi')
      have okp := (hx.pred _ (List.getElem_mem hi')).sl.ok
      obtain ⟨atts, hat⟩ := hev _ (List.getElem_mem hi')
      generalize l[i] = o at hlo2 ok1 ok2 ok3 okp hat
      simp only [encO] at hlo2
      have hA : Sub S' ⟨(S'.h.set S'.next (.row [.int .i64 0, .int .i64 0, .int .i64 0, .int .i64 0, .int .u64 0, .str [], .nils, .nils, .nils, .int .i64 0, .int .i64 0, .int .i64 0, .int .u64 0, .int .u64 0, .str [], .nils, .int .u64 0, .int .u64 0] 0 0 false 60)).set S'.next (.row (encO o) 0 0 false 60), S'.next + 1⟩ := sub1s
      have gB : (⟨(S'.h.set S'.next (.row [.int .i64 0, .int .i64 0, .int .i64 0, .int .i64 0, .int .u64 0, .str [], .nils, .nils, .nils, .int .i64 0, .int .i64 0, .int .i64 0, .int .u64 0, .int .u64 0, .str [], .nils, .int .u64 0, .int .u64 0] 0 0 false 60)).set S'.next (.row (encO o) 0 0 false 60), S'.next + 1⟩ : AS).h.get S'.next = some (.row (encO o) 0 0 false 60) := get_set_same _ _ _
      obtain ⟨r, W, ⟨h', v', rfl, hW, hO⟩, e1⟩ := (lasCopy (hh.sub hA) hlo).ex
      have hSW := (hS.trans hA).trans hW
      have gW := (hW.h _ (Nat.lt_succ_self _)).trans gB
      simp only [encO] at e1 gW
      clear gB
      have e26 := fun Q => durable26 hO.hh (Q := Q)
      have e13 := fun Q => next13 hO.hh (Q := Q)
      have hd := hO.hh.dur
      have hLe := hO.hh.le
      have hw1 := u64_pred (n := L.length) (by omega)
      have hw2 : IntKind.u64.wrap ((L.length : Int) - dur) = ((L.length - dur : Nat) : Int) := by
        rw [show ((L.length : Int) - dur) = ((L.length - dur : Nat) : Int) by omega]
        exact u64_nat (by omega)
      simp [-wpP_block, s0, s3, s4, u1, u2, hi', h60, ok1, ok2, ok3, okp]
      rw [wpP_block]
      simp at e1 e13 hw1 hw2
      simp [-wpP_block, kcode_app, s0, s3, s4, u1, u2, hi', h60, hlo2, ok1, ok2, ok3, okp, e1, ex0, e26, e13, hw1, hw2, gW]
      refine cut_of (midL S x i h h' v' L dur) ?_ ?_
      · by_cases m0 : (o.what.tmod 8 = 0 ∨ o.what.tmod 8 = 1) ∨ o.what.tmod 8 = 2
        · obtain ⟨r, T, ⟨rfl, v2, L2, g⟩, e2⟩ := (las29 (t := o.n) (key := o.key) hO.hh ((hat.sub hSW)) (by omega)).ex
          have q26 := fun Q => durable26 g.hist (Q := Q)
          have q13 := fun Q => next13 (hO.grow g hSW.next).1 (Q := Q)
          simp at e2 q13
          rcases m0 with (m0 | m0) | m0 <;>
          · simp [kcode_app, s0, s3, s4, m0, gW, ok1, ex0, e2, q13, q26]
            exact midL_mk hO hSW g hLi (by simp [s0]) (by simp [s3]) (by simp [s4]) (by simp) (by simp) (by simp [hn])
        · have n0 : ¬ o.what.tmod 8 = 0 := fun e => m0 (.inl (.inl e))
          have n1 : ¬ o.what.tmod 8 = 1 := fun e => m0 (.inl (.inr e))
          have n2 : ¬ o.what.tmod 8 = 2 := fun e => m0 (.inr e)
          clear m0
          have wd1 := u64_succ (n := dur) (by omega)
          by_cases n3 : o.what.tmod 8 = 3
          · obtain ⟨r, T, hr, e2⟩ := (las30 hO.hh).ex
            simp at e2
            rcases hr with ⟨hq, rfl, g⟩ | ⟨hq, rfl, rfl⟩
            · have q26 := fun Q => durable26 g.hist (Q := Q)
              have hq2 : 0 < L.length - dur := by omega
              simp at q26
              simp [kcode_app, s0, s3, s4, n3, gW, ok1, ex0, e2, q26, wd1, hq, hq2, bne_bool]
              exact midL_mk hO hSW g hLi (by simp [s0]) (by simp [s3]) (by simp [s4]) (by simp) (by simp) (by simp [hn])
            · have hq1 : ¬ dur < L.length := by omega
              have hq2 : ¬ 0 < L.length - dur := by omega
              simp [kcode_app, s0, s3, s4, n3, gW, ok1, ex0, e2, wd1, hq1, hq2, bne_bool]
              exact midL_mk hO hSW (grown_refl hO.hh) hLi (by simp [s0]) (by simp [s3]) (by simp [s4]) (by simp) (by simp) (by simp [hn])
          · by_cases n4 : o.what.tmod 8 = 4
            · obtain ⟨m, hm, hm5⟩ : ∃ m : Nat, m ≤ 4 ∧ (o.n : Int).tmod 5 = (m : Int) := ⟨o.n % 5, by omega, rfl⟩
              have wm1 : IntKind.i64.wrap (m : Int) = (m : Int) := IntWalk.i64_in _ (by omega)
              have wm2 := u64_nat (n := m) (by omega)
              have wm3 : IntKind.u64.wrap ((dur : Int) + m) = ((dur + m : Nat) : Int) := by rw [← u64_nat (n := dur + m) (by omega)]; simp
              obtain ⟨r, T, hr, e2⟩ := (las31 hO.hh hm).ex
              rcases hr with ⟨hq, rfl, rfl⟩ | ⟨hq, rfl, v2, g⟩
              · have hq1 : ¬ m ≤ L.length - dur := by omega
                simp [kcode_app, s0, s3, s4, n4, gW, ok1, ex0, e2, hm5, wm1, wm2, hq1, bne_bool]
                exact midL_mk hO hSW (grown_refl hO.hh) hLi (by simp [s0]) (by simp [s3]) (by simp [s4]) (by simp) (by simp) (by simp [hn])
              · have hq1 : m ≤ L.length - dur := by omega
                have q26 := fun Q => durable26 g.hist (Q := Q)
                have q13 := fun Q => next13 g.hist (Q := Q)
                have hlt : (L.take (dur + m)).length = dur + m := by rw [List.length_take]; omega
                rw [hlt] at q13
                have wm4 : IntKind.u64.wrap ((dur : Int) + m + 1) = (dur : Int) + m + 1 := by rw [show (dur : Int) + m + 1 = ((dur + m + 1 : Nat) : Int) by omega]; exact u64_nat (by omega)
                simp at q26 q13 wm3
                simp [kcode_app, s0, s3, s4, n4, gW, ok1, ex0, e2, hm5, wm1, wm2, hq1, q26, q13, wm3, wm4, bne_bool]
                exact midL_mk hO hSW g hLi (by simp [s0]) (by simp [s3]) (by simp [s4]) (by simp) (by simp) (by simp [hn])
            · by_cases n5 : o.what.tmod 8 = 5
              · obtain ⟨r, T, ⟨x', y', L2, rfl, hxy, hyd, g⟩, e2⟩ := (las9 hO.hh o.a1 o.a2 o.a3 o.n).ex
                have wm1 : IntKind.i64.wrap (dur : Int) = (dur : Int) := IntWalk.i64_in _ (by omega)
                have hx1 : ¬ y' < x' := by omega
                have hx2 : ¬ dur < y' := by omega
                have hx3 : ¬ (x' : Int) < 0 := by omega
                simp [kcode_app, s0, s3, s4, n5, gW, ok1, ex0, e2, wm1, hx1, hx2, hx3]
                exact midL_mk hO hSW g hLi (by simp [s0]) (by simp [s3]) (by simp [s4]) (by simp) (by simp) (by simp [hn])
              · by_cases n6 : o.what.tmod 8 = 6
                · obtain ⟨r, T, ⟨x', y', L2, rfl, g⟩, e2⟩ := (las32 hO.hh).ex
                  have q26 := fun Q => durable26 g.hist (Q := Q)
                  have wm1 : IntKind.u64.wrap ((dur : Int) + ((L.length - dur : Nat) : Int)) = (L.length : Int) := by
                    rw [show (dur : Int) + ((L.length - dur : Nat) : Int) = ((L.length : Nat) : Int) by omega]
                    exact u64_nat (by omega)
                  simp [kcode_app, s0, s3, s4, n6, gW, ok1, ex0, e2, q26, wm1]
                  exact midL_mk hO hSW g hLi (by simp [s0]) (by simp [s3]) (by simp [s4]) (by simp) (by simp) (by simp [hn])
                · obtain ⟨r, T, ⟨rfl, L2, g⟩, e2⟩ := (las24 hO.hh).ex
                  simp [kcode_app, s0, s3, s4, n0, n1, n2, n3, n4, n5, n6, gW, ok1, ex0, e2]
                  exact midL_mk hO hSW g hLi (by simp [s0]) (by simp [s3]) (by simp [s4]) (by simp) (by simp) (by simp [hn])
      · clear s0 s3 s4 hn e1 e26 e13 gW hO hSW hW hA hlo2 hat ok1 ok2 ok3 okp hw1 hw2 hS
        rintro F1 T ⟨v2, L2, dur2, hh2, hww, hST, hlo2, hdd, htu, hl2, s0, s3, s4, s6, s7, hn⟩
        simp [kcode_app, s0, s3, s4, s6, s7]
        refine loopP_of (itmL T x i h h' dur) dur (itmL_mk 0 (Sub.refl _) (by simp [s0]) (by simp [s3]) (by simp [s4]) (by simp [s6]) (by simp [s7]) (by simp) (by simp [hn]) (Nat.zero_le _) rfl) ?_
        clear s0 s3 s4 s6 s7 hn
        rintro k2 F2 S2 hn3 ⟨j, hS2, s0, s3, s4, s6, s7, s12, hn, hj, hk2⟩
        clear hn3
        by_cases hjd : j < dur
        · have hLj : L[j]? = some (L[j]'(by omega)) := List.getElem?_eq_getElem _
          generalize L[j]'(by omega) = kk at hLj
          obtain ⟨s, hL2, hs⟩ := htu j kk hjd hLj
          obtain ⟨r, T7, ⟨ua, rfl, hua, _, hT7⟩, e3⟩ := (item_yes (hww.sub hS2) hLj).ex
          have hA : Sub T7 ⟨(T7.h.set T7.next (.row [.int .u64 0, .int .u64 0, .str [], .nils] 0 0 false 42)).set T7.next (.row [.int .u64 ((j + 1 : Nat) : Int), .int .u64 kk.time, .str kk.key, ua] 0 0 false 42), T7.next + 1⟩ := sub1s
          have gA : (⟨(T7.h.set T7.next (.row [.int .u64 0, .int .u64 0, .str [], .nils] 0 0 false 42)).set T7.next (.row [.int .u64 ((j + 1 : Nat) : Int), .int .u64 kk.time, .str kk.key, ua] 0 0 false 42), T7.next + 1⟩ : AS).h.get T7.next = some (.row [.int .u64 ((j + 1 : Nat) : Int), .int .u64 kk.time, .str kk.key, ua] 0 0 false 42) := get_set_same _ _ _
          obtain ⟨r, T8, ⟨ub, rfl, hub, _, hT8⟩, e4⟩ := (item_yes (hh2.sub ((hS2.trans hT7).trans hA)) hL2).ex
          have hB : Sub T8 ⟨(T8.h.set T8.next (.row [.int .u64 0, .int .u64 0, .str [], .nils] 0 0 false 42)).set T8.next (.row [.int .u64 ((j + 1 : Nat) : Int), .int .u64 kk.time, .str kk.key, ub] 0 0 false 42), T8.next + 1⟩ := sub1s
          have gB : (⟨(T8.h.set T8.next (.row [.int .u64 0, .int .u64 0, .str [], .nils] 0 0 false 42)).set T8.next (.row [.int .u64 ((j + 1 : Nat) : Int), .int .u64 kk.time, .str kk.key, ub] 0 0 false 42), T8.next + 1⟩ : AS).h.get T8.next = some (.row [.int .u64 ((j + 1 : Nat) : Int), .int .u64 kk.time, .str kk.key, ub] 0 0 false 42) := get_set_same _ _ _
          obtain ⟨r, T9, ⟨rfl, hT9⟩, e5⟩ := (same33 (key := kk.key) (((hua.sub hA).sub hT8).sub hB) (hub.sub hB)).ex
          have gA8 := (hT8.h T7.next (Nat.lt_succ_self _)).trans gA
          have n78 : ¬ T7.next = T8.next := by have : T7.next + 1 ≤ T8.next := hT8.next; omega
          have hall := (((((hS2.trans hT7).trans hA).trans hT8).trans hB).trans hT9)
          have ka := hua.sl.cells
          have kao := okW_sl hua.sl
          have kb := hub.sl.cells
          have kbo := okW_sl hub.sl
          have kv := hua.sl.ok
          have kw := hub.sl.ok
          have hw := u64_succ (n := j + 1) (by omega)
          have q5 : (j : Int) + 1 ≤ dur := by omega
          simp at e3 e4 e5 gA8 hw
          by_cases a1 : kk.state = 1
          · have b1 : s = 1 := by omega
            simp [s0, s3, s4, s6, s7, s12, q5, e3, e4, e5, ex0, ka, kao, kb, kbo, kv, kw, hua.sl.np, hub.sl.np, gA8, n78, a1, b1]
            exact ⟨dur - (j + 1), by omega, itmL_mk (j + 1) hall (by simp [s0]) (by simp [s3]) (by simp [s4]) (by simp [s6]) (by simp [s7]) (by simp [hw]) (by simp [hn]) (by omega) rfl⟩
          · by_cases a2 : kk.state = 2
            · have b1 : ¬ s = 0 := by omega
              simp [s0, s3, s4, s6, s7, s12, q5, e3, e4, e5, ex0, ka, kao, kb, kbo, kv, kw, hua.sl.np, hub.sl.np, gA8, n78, a2, b1]
              exact ⟨dur - (j + 1), by omega, itmL_mk (j + 1) hall (by simp [s0]) (by simp [s3]) (by simp [s4]) (by simp [s6]) (by simp [s7]) (by simp [hw]) (by simp [hn]) (by omega) rfl⟩
            · simp [s0, s3, s4, s6, s7, s12, q5, e3, e4, e5, ex0, ka, kao, kb, kbo, kv, kw, hua.sl.np, hub.sl.np, gA8, n78, a1, a2]
              exact ⟨dur - (j + 1), by omega, itmL_mk (j + 1) hall (by simp [s0]) (by simp [s3]) (by simp [s4]) (by simp [s6]) (by simp [s7]) (by simp [hw]) (by simp [hn]) (by omega) rfl⟩
        · obtain rfl : j = dur := by omega
          have q5 : ¬ (j : Int) + 1 ≤ j := by omega
          have hhE := hh2.sub hS2
          have q26 := fun Q => durable26 hhE (Q := Q)
          have q6 : ¬ dur2 < j := by omega
          have hw := wrap_succ (i := i) (by omega)
          simp [s0, s3, s4, s6, s7, s12, q5, ex0, q26, q6]
          exact ⟨l.length - (i + 1), by omega, lasH_mk (i := i + 1) hhE (hST.trans hS2) hlo2 hl2 (by simp [s0]) (by simp [s3]) (by simp [hw]) (by simp [hn]) hi' rfl⟩
    · simp [s0, s3, s4, u1, u2, hi', h60, d12, ex0]
  · simp [s0, s3, s4, u1, u2, hi', d12, ex0]
end Go.Proofs.YtedonhemfhfbaaaGreat.mod

namespace Go.Proofs.YtedonhemfhfbaaaGreat.mod
open Go Go.Am
set_option linter.unusedVariables false
set_option linter.unusedSimpArgs false

theorem op_ofE {cx : Am.Cx} (K : Facts cx) {S : AS} {m : Nat} {x : List AV} (h : typedA cx S (m + 8) 60 x) : ∃ o : OpG, x = encO o ∧ (PredAt S o.p o.ks ∧ (okV o.eu = true ∧ okV o.sv = true ∧ okV o.du = true) ∧ ∃ a, AttsAt S o.eu a) := by
  obtain ⟨x1, _, rfl, _, h1, x2, _, rfl, _, h2, x3, _, rfl, _, h3, x4, _, rfl, _, h4, x5, _, rfl, _, h5, x6, _, rfl, _, h6, x7, _, rfl, _, h7, x8, _, rfl, _, h8, x9, _, rfl, _, h9, x10, _, rfl, _, h10, rfl⟩ := rec_of K.fl60 h
  obtain ⟨a1, rfl⟩ := int_of K.un3 h1
  obtain ⟨a2, rfl⟩ := int_of K.un3 h2
  obtain ⟨a3, rfl⟩ := int_of K.un3 h3
  obtain ⟨a4, rfl⟩ := int_of K.un3 h4
  obtain ⟨n, rfl, _⟩ := u64_of K.un31 h5
  obtain ⟨s, u, l, rfl, g1⟩ := ev_of K h6
  obtain ⟨p, ks, rfl, gp⟩ := pred_of K h7
  obtain ⟨sv, rfl, gs⟩ := ok_slice K.un57 h8
  obtain ⟨y1, _, rfl, _, k1, y2, _, rfl, _, k2, y3, _, rfl, _, k3, rfl⟩ := rec_of K.fl30 h9
  obtain ⟨b1, rfl⟩ := int_of K.un3 k1
  obtain ⟨b2, rfl⟩ := int_of K.un3 k2
  obtain ⟨b3, rfl⟩ := int_of K.un3 k3
  obtain ⟨z1, _, rfl, _, q1, z2, _, rfl, _, q2, rfl⟩ := rec_of K.fl58 h10
  obtain ⟨w1, _, rfl, _, j1, w2, _, rfl, _, j2, w3, _, rfl, _, j3, rfl⟩ := rec_of K.fl42 q1
  obtain ⟨v1, _, rfl, _, i1, v2, _, rfl, _, i2, rfl⟩ := rec_of K.fl46 q2
  obtain ⟨c1, rfl, _⟩ := u64_of K.un31 j1
  obtain ⟨c2, rfl, _⟩ := u64_of K.un31 j2
  obtain ⟨c3, rfl, _⟩ := u64_of K.un31 i1
  obtain ⟨c4, rfl, _⟩ := u64_of K.un31 i2
  obtain ⟨s', u', l', rfl, g2⟩ := ev_of K j3
  exact ⟨⟨a1, a2, a3, a4, n, s, u, p, sv, b1, b2, b3, c1, c2, s', u', c3, c4, ks⟩, by simp [encO], gp, ⟨g1.sl.ok, gs, g2.sl.ok⟩, _, g1⟩
theorem args55E {cx : Am.Cx} (K : Facts cx) {S : AS} {m : Nat} {vals : List AV} (h : typedArgs cx S (m + 9) [55] vals) : ∃ (u : AV) (l : List OpG), vals = [u] ∧ OpsAt S u l ∧ (∀ o, o ∈ l → ∃ a, AttsAt S o.eu a) ∧ l.length ≤ maxLen := by
  obtain ⟨a1, r1, rfl, h1, rfl⟩ := h
  obtain ⟨u, l, rfl, g1, g2, g3, _⟩ := sl_of K.un55 K.sz60 h1 encO_len (fun x hx => op_ofE K hx)
  exact ⟨u, l, by simp only [argA, K.ag55, soleA], ⟨g1, fun o ho => (g2 o ho).1, fun o ho => (g2 o ho).2.1⟩, fun o ho => (g2 o ho).2.2, g3⟩
end Go.Proofs.YtedonhemfhfbaaaGreat.mod
