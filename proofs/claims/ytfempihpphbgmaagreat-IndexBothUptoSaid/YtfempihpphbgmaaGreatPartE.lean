/-
  An index as what it stands for: events by numbers.
-/
import Derived.Test.YtfempihpphbgmaaGreatPartD
import Derived.Test.YtfempihpphbgmaaGreatAmArgs
import Derived.Test.YtfempihpphbgmaaGreatPartC
import Derived.Test.YtfempihpphbgmaaGreatAmHanded
import Derived.Test.YtfempihpphbgmaaGreatAmFast
import Derived.Test.YtfempihpphbgmaaGreatAmPrim
import Derived.LaidLaws
import Derived.Lib.LaidTab
import Derived.WalkKit
import Derived.ProofKit
import Derived.Test.YtfempihpphbgmaaGreatAmRow
import Derived.Test.YtfempihpphbgmaaGreatRows
import Derived.JoinedCond
noncomputable section
namespace Go.Proofs.YtfempihpphbgmaaGreat.idx
open Go Go.Am Go.Proofs.YtfempihpphbgmaaGreat.mod
set_option linter.unusedVariables false
set_option linter.unusedSimpArgs false
abbrev EvD := List Nat × List Att
def mayD (v : EvD) : Bool := evMay v.1 v.2
structure Live (S : AS) (X : XI) (st : Nat → Option EvD) (K : Nat) : Prop where
 ix : IxAt S X (hasP X)
 ne : NoEmpty X
 may : ∀ e, e ∈ X.evs → evMay e.key e.atts = true
 reps : ∀ n v, st n = some v ↔ ∃ e, e ∈ X.evs ∧ e.n = n ∧ (e.key, e.atts) = v
 k : X.k ≤ K
theorem Live.sub {S T : AS} {X : XI} {st : Nat → Option EvD} {K : Nat} (h : Live S X st K) (hs : Sub S T) : Live T X st K := { h with ix := h.ix.sub hs }
theorem Live.mono {S : AS} {X : XI} {st : Nat → Option EvD} {K K' : Nat} (h : Live S X st K) (hk : K ≤ K') : Live S X st K' := { h with k := Nat.le_trans h.k hk }
theorem Live.keep {S T : AS} {A : Nat → Prop} {X : XI} {st : Nat → Option EvD} {K : Nat} (h : Live S X st K) (hs : Keep A S T) (ha : ∀ id, X.foot id → ¬ A id) : Live T X st K := { h with ix := h.ix.keep hs ha }
theorem Live.foot {S : AS} {X : XI} {st : Nat → Option EvD} {K : Nat} (h : Live S X st K) {id : Nat} (hf : X.foot id) : id < S.next := h.ix.foot_lt hf
def updE (st : Nat → Option EvD) (n : Nat) (v : Option EvD) (m : Nat) : Option EvD := if m = n then v else st m
def addE (st : Nat → Option EvD) (n : Nat) (v : EvD) : Int := if mayD v = false then 30 else if (st n).isSome then 9 else 0
def addS (st : Nat → Option EvD) (n : Nat) (v : EvD) : Nat → Option EvD := if addE st n v = 0 then updE st n (some v) else st
def remE (st : Nat → Option EvD) (n : Nat) : Int := if (st n).isSome then 0 else 6
def remS (st : Nat → Option EvD) (n : Nat) : Nat → Option EvD := updE st n none
def ToldS (T : AS) (st : Nat → Option EvD) (cs : List Con) (r : AV) : Prop :=
 (mayP cs = false ∧ r = .tuple [.nils, .int .i64 30]) ∨ (mayP cs = true ∧ ∃ v l, r = .tuple [v, .int .i64 0] ∧ Sl T v 1 (numL l) ∧ l.Pairwise (· < ·) ∧ l.length ≤ 1048576 ∧ ∀ n, n ∈ l ↔ ∃ v, st n = some v ∧ matchB cs v.2 = true)
section
variable {S : AS} {X : XI} {st : Nat → Option EvD} {K : Nat}
theorem new_live : CallW C1 8 [] S fun v T => v = .ptr (S.next + 2) 0 0 2 ∧ Live T (X0 S.next) (fun _ => none) 0 ∧ Sub S T ∧ T.next = S.next + 3 :=
 (up_id new8).mono fun v T ⟨h1, h2, h3, h4⟩ => ⟨h1, ⟨h2, fun m hm => (by cases hm), fun m hm => (by cases hm), fun n v => ⟨fun h => (by cases h), fun ⟨e, he, _⟩ => (by cases he)⟩, Nat.le_refl _⟩, h3, h4⟩
where
 up_id {f : FuncId} {vs : List AV} {S : AS} {Q : AV → AS → Prop} (h : CallW C1 f vs S Q) : CallW C1 f vs S Q := h
theorem add_live {n : Nat} {key : List Nat} {u : AV} {atts : List Att} (h : Live S X st K) (hu : AttsAt S u atts) (hux : ∀ id, bnd u = id + 1 → ¬ X.wf id) (hk : K + 100 ≤ 1048576) :
  CallW C1 9 [.ptr X.x 0 0 2, .int .u64 (n : Int), .agg [.str key, u]] S fun r T => ∃ X', Live T X' (addS st n (key, atts)) (K + 9) ∧ Step S T X X' ∧ X'.x = X.x ∧ r = .int .i64 (addE st n (key, atts)) := by
 refine (add9 h.ix h.ne hu hux (by have := h.k; omega)).mono ?_
 rintro r T ⟨X', g1, g2, g3, g4, g5, g6⟩
 have hk' := h.k
 have hsome : (st n).isSome = true ↔ ∃ e, e ∈ X.evs ∧ e.n = n := by
  cases hst : st n with
  | none =>
   refine ⟨fun h => (by cases h), fun ⟨e, he, hn⟩ => ?_⟩
   have := (h.reps n (e.key, e.atts)).2 ⟨e, he, hn, rfl⟩
   rw [hst] at this; cases this
  | some v =>
   obtain ⟨e, he, hn, _⟩ := (h.reps n v).1 hst
   exact ⟨fun _ => ⟨e, he, hn⟩, fun _ => rfl⟩
 rcases g6 with ⟨h1, rfl, h3⟩ | ⟨h1, h2, rfl, h3⟩ | ⟨h1, h2, rfl, u', h3⟩
 ·have he : addE st n (key, atts) = 30 := by unfold addE mayD; rw [if_pos h1]
  refine ⟨X', ⟨g1, g2, fun e he => h.may e (by rw [← h3]; exact he), fun m v => ?_, by omega⟩, g3, g4, by rw [he]⟩
  unfold addS
  rw [if_neg (by rw [he]; decide), h3]; exact h.reps m v
 ·have he : addE st n (key, atts) = 9 := by unfold addE mayD; rw [if_neg (by rw [h1]; decide), if_pos (hsome.2 h2)]
  refine ⟨X', ⟨g1, g2, fun e he => h.may e (by rw [← h3]; exact he), fun m v => ?_, by omega⟩, g3, g4, by rw [he]⟩
  unfold addS
  rw [if_neg (by rw [he]; decide), h3]; exact h.reps m v
 ·have hno : ¬ (st n).isSome = true := fun hh => by
   obtain ⟨e, he, hn⟩ := hsome.1 hh
   exact h2 e he hn
  have he : addE st n (key, atts) = 0 := by unfold addE mayD; rw [if_neg (by rw [h1]; decide), if_neg hno]
  refine ⟨X', ⟨g1, g2, fun e he => ?_, fun m v => ?_, by omega⟩, g3, g4, by rw [he]⟩
  ·rw [h3] at he
   rcases List.mem_append.1 he with he | he
   ·exact h.may e he
   ·simp at he; subst he; exact h1
  ·unfold addS
   rw [if_pos he, h3]
   unfold updE
   by_cases hm : m = n
   ·subst hm
    rw [if_pos rfl]
    constructor
    ·intro hv
     cases hv
     exact ⟨_, List.mem_append.2 (.inr (List.mem_singleton.2 rfl)), rfl, rfl⟩
    ·rintro ⟨e, he, hn, hv⟩
     rcases List.mem_append.1 he with he | he
     ·exact absurd hn (h2 e he)
     ·simp at he; subst he
      rw [← hv]
   ·rw [if_neg hm, h.reps m v]
    constructor
    ·rintro ⟨e, he, hn, hv⟩
     exact ⟨e, List.mem_append.2 (.inl he), hn, hv⟩
    ·rintro ⟨e, he, hn, hv⟩
     rcases List.mem_append.1 he with he | he
     ·exact ⟨e, he, hn, hv⟩
     ·simp at he; subst he
      exact absurd hn (fun e => hm e.symm)
theorem rem_live {n : Nat} (h : Live S X st K) (hk : K ≤ 1048576) :
  CallW C1 11 [.ptr X.x 0 0 2, .int .u64 (n : Int)] S fun r T => ∃ X', Live T X' (remS st n) K ∧ Step S T X X' ∧ X'.x = X.x ∧ r = .int .i64 (remE st n) := by
 have hk' := h.k
 refine (remove11 h.ix h.ne h.may (by omega)).mono ?_
 rintro r T ⟨X', g1, g2, g3, g4, g5, g6⟩
 rcases g6 with ⟨h1, rfl, h3⟩ | ⟨⟨e0, h1, h2⟩, rfl, h3⟩
 ·have hno : st n = none := by
   cases hst : st n with
   | none => rfl
   | some v =>
    obtain ⟨e, he, hn, _⟩ := (h.reps n v).1 hst
    exact absurd hn (h1 e he)
  refine ⟨X', ⟨g1, g2, fun e he => h.may e (by rw [← h3]; exact he), fun m v => ?_, by omega⟩, g3, g4, by unfold remE; rw [hno]; rfl⟩
  rw [h3, ← h.reps m v]
  unfold remS updE
  by_cases hm : m = n
  ·rw [if_pos hm, hm, hno]
  ·rw [if_neg hm]
 ·have hs : (st n).isSome = true := by
   have := (h.reps n (e0.key, e0.atts)).2 ⟨e0, h1, h2, rfl⟩
   rw [this]; rfl
  have hme := mem_delE (n := n) h.ix.evk
  refine ⟨X', ⟨g1, g2, fun e he => h.may e ?_, fun m v => ?_, by omega⟩, g3, g4, by unfold remE; rw [if_pos hs]⟩
  ·rw [h3] at he; exact ((hme e).1 he).1
  ·rw [h3]
   unfold remS updE
   by_cases hm : m = n
   ·rw [if_pos hm]
    refine ⟨fun h => (by cases h), fun ⟨e, he, hn, _⟩ => absurd (hn.trans hm) ((hme e).1 he).2⟩
   ·rw [if_neg hm, h.reps m v]
    constructor
    ·rintro ⟨e, he, hn, hv⟩
     exact ⟨e, (hme e).2 ⟨he, fun hh => hm (hn.symm.trans hh)⟩, hn, hv⟩
    ·rintro ⟨e, he, hn, hv⟩
     exact ⟨e, ((hme e).1 he).1, hn, hv⟩
theorem query_live {p : AV} {cs : List Con} (h : Live S X st K) (hp : PredAt S p cs) (hk : K ≤ 1048576) : CallW C1 12 [.ptr X.x 0 0 2, p] S fun r T => Sub S T ∧ ToldS T st cs r := by
 have hk' := h.k
 refine (query12 h.ix h.may hp (by omega)).mono ?_
 rintro r T ⟨h1, h2⟩
 refine ⟨h1, ?_⟩
 rcases h2 with ⟨h2, h3⟩ | ⟨h2, v, l, h3, h4, h5, h6, h7⟩
 ·exact .inl ⟨h2, h3⟩
 ·refine .inr ⟨h2, v, l, h3, h4, h5, by omega, fun n => ?_⟩
  rw [h7 n]
  constructor
  ·rintro ⟨e, he, hn, hm⟩
   exact ⟨(e.key, e.atts), (h.reps n _).2 ⟨e, he, hn, rfl⟩, hm⟩
  ·rintro ⟨w, hw, hm⟩
   obtain ⟨e, he, hn, rfl⟩ := (h.reps n w).1 hw
   exact ⟨e, he, hn, hm⟩
theorem numbers_live (h : Live S X st K) (hk : K ≤ 1048576) : CallW C1 17 [.ptr X.x 0 0 2] S fun v T => Sub S T ∧ ∃ l, Sl T v 1 (numL l) ∧ l.Pairwise (· < ·) ∧ l.length ≤ 1048576 ∧ ∀ n, n ∈ l ↔ (st n).isSome = true := by
 have hk' := h.k
 refine (numbers17 h.ix (by omega)).mono ?_
 rintro v T ⟨h1, h2⟩
 refine ⟨h2, numsOf X, h1, numsOf_lt h.ix, ?_, fun n => ?_⟩
 ·unfold numsOf
  rw [List.length_mergeSort, List.length_map]
  have := h.ix.evl; omega
 ·rw [numsOf_mem]
  cases hst : st n with
  | none =>
   refine ⟨fun ⟨e, he, hn⟩ => ?_, fun h => (by cases h)⟩
   have := (h.reps n (e.key, e.atts)).2 ⟨e, he, hn, rfl⟩
   rw [hst] at this; cases this
  | some v =>
   obtain ⟨e, he, hn, _⟩ := (h.reps n v).1 hst
   exact ⟨fun _ => rfl, fun _ => ⟨e, he, hn⟩⟩
end
theorem rise_eq {l m : List Nat} (h1 : l.Pairwise (· < ·)) (h2 : m.Pairwise (· < ·)) (h : ∀ n, n ∈ l ↔ n ∈ m) : l = m := by
 have hp : l.Perm m := (List.perm_ext_iff_of_nodup (h1.imp fun h => by omega) (h2.imp fun h => by omega)).2 h
 exact List.Perm.eq_of_pairwise (le := (· < ·)) (fun a b _ _ h1 h2 => by omega) h1 h2 hp
theorem fn16 : C0.fns.get 16 = some Tryz.f16 := by kernel_rfl
theorem ok16 : codeOk C0 Tryz.f16.ntmps (Tryz.f16.body.getD .skip) = true := by kernel_rfl
def saH (S : AS) (u v : AV) (l m : List Nat) (k : Nat) (F' : Fr) (S' : AS) : Prop :=
 S' = S ∧ ∃ i : Nat, sl F' 0 = u ∧ sl F' 1 = v ∧ sl F' 5 = .int .i64 (i : Int) ∧ i ≤ l.length ∧ l.take i = m.take i ∧ k = l.length - i ∧ F'.n = 26
theorem nt16 : Tryz.f16.ntmps = 26 := by kernel_rfl
theorem numL_get {l : List Nat} {i : Nat} {x : Nat} (h : l[i]? = some x) : (numL l)[i]? = some (.int .u64 (x : Int)) := by unfold numL; rw [List.getElem?_map, h]; rfl
theorem same16 {S : AS} {u v : AV} {l m : List Nat} (hu : Sl S u 1 (numL l)) (hv : Sl S v 1 (numL m)) (hl : l.length ≤ 1048576) (hm : m.length ≤ 1048576) : CallW C0 16 [u, v] S fun r T => r = .bool (decide (l = m)) ∧ T = S := by
 have u1 := hu.sl
 have u2 := hu.len1
 have v1 := hv.sl
 have v2 := hv.len1
 rw [numL_len] at u2 v2
 have uo := hu.ok
 have vo := hv.ok
 refine enterW (pu0 _) (pr0 _ rfl) fn16 rfl ok16 (by simp) fun F hn hs => ?_
 rw [nt16] at hn
 have s0 := hs 0
 have s1 := hs 1
 clear hs
 simp only [List.getElem?_cons_zero, List.getElem?_cons_succ, Option.getD_some] at s0 s1
 by_cases hlm : l.length = m.length
 ·have hlm' : (l.length : Int) = (m.length : Int) := by omega
  simp [s0, s1, u1, u2, v1, v2, hlm']
  refine zaH (saH S u v l m) l.length ⟨rfl, 0, by simp [s0], by simp [s1], by simp, Nat.zero_le _, rfl, rfl, by simp [hn]⟩ ?_
  clear s0 s1 hn
  rintro k F' S' hn' ⟨rfl, i, t0, t1, t5, hi, ht, hk, hn⟩
  clear hn'
  by_cases hi' : i < l.length
  ·have hx : l[i]? = some l[i] := List.getElem?_eq_getElem hi'
   have hy : m[i]? = some m[i] := List.getElem?_eq_getElem (by omega)
   have lx := loadT_sl (cx := C0) (e := 30) hu (numL_get hx) ag30
   have ly := loadT_sl (cx := C0) (e := 30) hv (numL_get hy) ag30
   have hw := zaP (show i < 9223372036854775807 by omega)
   simp [t0, t1, t5, u1, u2, hi', hn]
   refine still_ok (n := 26) (by kernel_rfl) (by simp [hn]) ?_
   by_cases hxy : l[i] = m[i]
   ·have hxy' : (l[i] : Int) = (m[i] : Int) := by omega
    simp [t0, t1, t5, u1, u2, v1, v2, hi', show i < m.length by omega, lx, ly, hxy', uo, vo]
    exact ⟨l.length - (i + 1), by omega, rfl, i + 1, by simp [t0], by simp [t1], by simp [hw, -Int.natCast_add], hi', take_more ht hi' (by omega) hxy, rfl, by simp [hn]⟩
   ·have hxy' : ¬ (l[i] : Int) = (m[i] : Int) := by omega
    have hne : l ≠ m := fun e => hxy (by subst e; rfl)
    simp [t0, t1, t5, u1, u2, v1, v2, hi', show i < m.length by omega, lx, ly, hxy', uo, vo, hne]
  ·have heq : l = m := by
    rw [List.take_of_length_le (by omega), List.take_of_length_le (by omega)] at ht
    exact ht
   subst heq
   simp [t0, t1, t5, u1, u2, hi']
 ·have hlm' : ¬ (l.length : Int) = (m.length : Int) := by omega
  have hne : l ≠ m := fun e => hlm (by rw [e])
  simp [s0, s1, u1, u2, v1, v2, hlm', hlm, hne]
def flT (cx : Am.Cx) (t : TypeId) : Option (List TypeId) := match und cx t with | some (.struct fs) => some (fs.toList.map (·.type)) | _ => none
structure Facts (cx : Am.Cx) : Prop where
 un3 : und cx 3 = some (.int .i64)
 un2 : und cx 2 = some (.int .i64)
 un4 : und cx 4 = some .bool
 un9 : und cx 9 = some .string
 un30 : und cx 30 = some (.int .u64)
 un36 : und cx 36 = some (.int .u16)
 fl50 : flT cx 50 = some [3, 2, 9, 4]
 fl65 : flT cx 65 = some [9, 50]
 fl54 : flT cx 54 = some [9, 3, 50, 51]
 fl33 : flT cx 33 = some [9, 31]
 un25 : und cx 25 = some (.slice 54)
 un22 : und cx 22 = some (.slice 33)
 un23 : und cx 23 = some (.slice 36)
 un51 : und cx 51 = some (.slice 50)
 un31 : und cx 31 = some (.slice 65)
 sz50 : szOf cx 50 = some 4
 sz54 : szOf cx 54 = some 7
 sz65 : szOf cx 65 = some 5
 sz33 : szOf cx 33 = some 2
 sz36 : szOf cx 36 = some 1
 by65 : bytesOf cx 65 = some 56
 ag22 : aggOf cx 22 = some false
 ag23 : aggOf cx 23 = some false
 ag25 : aggOf cx 25 = some false
 ag33 : aggOf cx 33 = some true
 ag50 : aggOf cx 50 = some true
 ag9 : aggOf cx 9 = some false
theorem facts1 : Facts C1 := ⟨by kernel_rfl, by kernel_rfl, by kernel_rfl, by kernel_rfl, by kernel_rfl, by kernel_rfl, by kernel_rfl, by kernel_rfl, by kernel_rfl, by kernel_rfl, by kernel_rfl, by kernel_rfl, by kernel_rfl, by kernel_rfl, by kernel_rfl, by kernel_rfl, by kernel_rfl, by kernel_rfl, by kernel_rfl, by kernel_rfl, by kernel_rfl, by kernel_rfl, by kernel_rfl, by kernel_rfl, by kernel_rfl, by kernel_rfl, by kernel_rfl⟩
section
variable {cx : Am.Cx}
theorem rec_of {S : AS} {m : Nat} {t : TypeId} {l : List TypeId} {x : List AV} (h : flT cx t = some l) (hx : typedA cx S (m + 1) t x) : fieldsA (szOf cx) (typedA cx S m) l x := by
 unfold flT at h
 split at h
 ·rename_i fs hu
  cases h
  unfold typedA at hx
  simp only [hu] at hx
  exact hx
 ·cases h
theorem chunks {α : Type} {sz : Nat} {enc : α → List AV} {G : α → Prop} : ∀ (k : Nat) (cells : List AV), cells.length = k * sz → (∀ i, i < k → ∃ a, (cells.drop (i * sz)).take sz = enc a ∧ G a) → ∃ l : List α, l.length = k ∧ cells = l.flatMap enc ∧ ∀ a, a ∈ l → G a
 | 0, cells, h, _ => by
  rw [Nat.zero_mul] at h
  exact ⟨[], rfl, by rw [List.length_eq_zero_iff.1 h]; rfl, fun a ha => by cases ha⟩
 | k + 1, cells, h, hc => by
  obtain ⟨a, e, g⟩ := hc 0 (by omega)
  rw [Nat.succ_mul] at h
  obtain ⟨l, h1, h2, h3⟩ := chunks (sz := sz) (enc := enc) (G := G) k (cells.drop sz) (by rw [List.length_drop]; omega) (fun i hi => by
   obtain ⟨b, e, g⟩ := hc (i + 1) (by omega)
   refine ⟨b, ?_, g⟩
   rw [← e, List.drop_drop]
   congr 2
   rw [Nat.succ_mul, Nat.add_comm])
  refine ⟨a :: l, by rw [List.length_cons, h1], ?_, fun b hb => ?_⟩
  ·rw [List.flatMap_cons, ← h2, ← e, Nat.zero_mul, List.drop_zero, List.take_append_drop]
  ·rcases List.mem_cons.1 hb with rfl | hb
   ·exact g
   ·exact h3 b hb
theorem sl_of {S : AS} {m : Nat} {t e sz : Nat} {avs : List AV} (hu : und cx t = some (.slice e)) (hs : szOf cx e = some sz) (h : typedA cx S (m + 1) t avs) {α : Type} {enc : α → List AV} {G : α → Prop} (hz : ∀ a, (enc a).length = sz)
  (hel : ∀ x, typedA cx S m e x → ∃ a, x = enc a ∧ G a) : ∃ (u : AV) (l : List α), avs = [u] ∧ Sl S u sz (l.flatMap enc) ∧ (∀ a, a ∈ l → G a) ∧ l.length ≤ maxLen ∧ ∀ bs, bytesOf cx e = some bs → l.length * bs ≤ reachBytes := by
 unfold typedA at h
 simp only [hu] at h
 rcases h with rfl | ⟨id, len, cap, sz', rfl, h1, h2, h3, h4, hb, h5, h6⟩
 ·exact ⟨_, [], rfl, Sl.nil, fun a ha => (by cases ha), by simp, fun bs _ => by simp⟩
 ·rw [hs] at h1
  cases h1
  rcases h6 with rfl | ⟨cells, ty, g1, g2, g3⟩
  ·obtain rfl : len = 0 := by omega
   exact ⟨_, [], rfl, ⟨by simp [isSl, capB], rfl, by simp [sLen], h5⟩, fun a ha => (by cases ha), by simp, fun bs _ => by simp⟩
  ·obtain ⟨l, k1, k2, k3⟩ := chunks cap cells g2 fun i hi => hel _ (g3 i hi)
   subst k2
   refine ⟨_, l.take len, rfl, ⟨by simp [isSl, capB, h3], ?_, by rw [fm_len hz, List.length_take]; simp only [sLen]; congr 1; omega, h5⟩, fun a ha => k3 a (List.mem_of_mem_take ha), by rw [List.length_take]; omega, fun bs hbs => Nat.le_trans (Nat.mul_le_mul_right _ (by rw [List.length_take]; omega)) (hb bs hbs)⟩
   cases len with
   | zero => simp [rdS]
   | succ len =>
    simp only [rdS, rd_at, g1, zbJ]
    rw [if_pos ⟨Nat.le_refl _, Nat.le_refl _, by rw [Nat.zero_add]; exact Nat.mul_le_mul_right _ h3⟩, List.drop_zero, fm_take hz]
theorem int_of {S : AS} {m : Nat} {t : TypeId} {avs : List AV} (hu : und cx t = some (.int .i64)) (h : typedA cx S (m + 1) t avs) : ∃ n : Int, avs = [.int .i64 n] := by
 unfold typedA at h
 simp only [hu] at h
 obtain ⟨n, e, _, _⟩ := h
 exact ⟨n, e⟩
theorem str_of {S : AS} {m : Nat} {t : TypeId} {avs : List AV} (hu : und cx t = some .string) (h : typedA cx S (m + 1) t avs) : ∃ s : List Nat, avs = [.str s] := by
 unfold typedA at h
 simp only [hu] at h
 obtain ⟨s, e, _⟩ := h
 exact ⟨s, e⟩
theorem bool_of {S : AS} {m : Nat} {t : TypeId} {avs : List AV} (hu : und cx t = some .bool) (h : typedA cx S (m + 1) t avs) : ∃ b : Bool, avs = [.bool b] := by
 unfold typedA at h
 simp only [hu] at h
 exact h
theorem val_of (K : Facts cx) {S : AS} {m : Nat} {x : List AV} (h : typedA cx S (m + 2) 50 x) : ∃ v : Val, x = encV v := by
 obtain ⟨a, _, rfl, _, h1, b, _, rfl, _, h2, c, _, rfl, _, h3, d, _, rfl, _, h4, rfl⟩ := rec_of K.fl50 h
 obtain ⟨k, rfl⟩ := int_of K.un3 h1
 obtain ⟨n, rfl⟩ := int_of K.un2 h2
 obtain ⟨s, rfl⟩ := str_of K.un9 h3
 obtain ⟨b, rfl⟩ := bool_of K.un4 h4
 exact ⟨⟨k, n, s, b⟩, rfl⟩
theorem att_of (K : Facts cx) {S : AS} {m : Nat} {x : List AV} (h : typedA cx S (m + 3) 65 x) : ∃ a : Att, x = encA a := by
 obtain ⟨a, _, rfl, _, h1, b, _, rfl, _, h2, rfl⟩ := rec_of K.fl65 h
 obtain ⟨s, rfl⟩ := str_of K.un9 h1
 obtain ⟨v, rfl⟩ := val_of K h2
 exact ⟨⟨s, v⟩, by simp [encA]⟩
theorem con_of (K : Facts cx) {S : AS} {m : Nat} {x : List AV} (h : typedA cx S (m + 4) 54 x) : ∃ c : Con, x = encC c ∧ ConOk S c := by
 obtain ⟨a, _, rfl, _, h1, b, _, rfl, _, h2, c, _, rfl, _, h3, d, _, rfl, _, h4, rfl⟩ := rec_of K.fl54 h
 obtain ⟨s, rfl⟩ := str_of K.un9 h1
 obtain ⟨o, rfl⟩ := int_of K.un3 h2
 obtain ⟨v, rfl⟩ := val_of K h3
 obtain ⟨u, l, rfl, g1, _, g2, _⟩ := sl_of (G := fun _ => True) K.un51 K.sz50 h4 encV_len (fun x hx => by obtain ⟨v, e⟩ := val_of K hx; exact ⟨v, e, trivial⟩)
 exact ⟨⟨s, o, v, u, l⟩, by simp [encC, encV], ⟨g1, Nat.le_trans g2 (by decide)⟩⟩
theorem pred_of (K : Facts cx) {S : AS} {m : Nat} {x : List AV} (h : typedA cx S (m + 5) 25 x) : ∃ (p : AV) (ks : List Con), x = [p] ∧ PredAt S p ks := by
 obtain ⟨u, l, rfl, g1, g2, g3, _⟩ := sl_of K.un25 K.sz54 h zbF (fun x hx => con_of K hx)
 exact ⟨u, l, rfl, g1, g2, Nat.le_trans g3 (by decide)⟩
theorem ev_of (K : Facts cx) {S : AS} {m : Nat} {x : List AV} (h : typedA cx S (m + 5) 33 x) : ∃ (s : List Nat) (u : AV) (l : List Att), x = [.str s, u] ∧ AttsAt S u l := by
 obtain ⟨a, _, rfl, _, h1, b, _, rfl, _, h2, rfl⟩ := rec_of K.fl33 h
 obtain ⟨s, rfl⟩ := str_of K.un9 h1
 obtain ⟨u, l, rfl, g1, _, _, g2⟩ := sl_of (G := fun _ => True) K.un31 K.sz65 h2 zcA (fun x hx => by obtain ⟨v, e⟩ := att_of K hx; exact ⟨v, e, trivial⟩)
 have hb := g2 56 K.by65
 refine ⟨s, u, l, rfl, g1, ?_⟩
 have : reachBytes = 140737488351232 := rfl
 omega
structure EvA where
 key : List Nat
 u : AV
 atts : List Att
def encEA (e : EvA) : List AV := [.str e.key, e.u]
theorem encEA_len (e : EvA) : (encEA e).length = 2 := rfl
theorem evs_of (K : Facts cx) {S : AS} {m : Nat} {x : List AV} (h : typedA cx S (m + 6) 22 x) : ∃ (u : AV) (l : List EvA), x = [u] ∧ Sl S u 2 (l.flatMap encEA) ∧ (∀ e, e ∈ l → AttsAt S e.u e.atts) ∧ l.length ≤ maxLen := by
 obtain ⟨u, l, rfl, g1, g2, g3, _⟩ := sl_of (enc := encEA) (G := fun e : EvA => AttsAt S e.u e.atts) K.un22 K.sz33 h encEA_len (fun x hx => by
  obtain ⟨s, u, l, rfl, g⟩ := ev_of K hx
  exact ⟨⟨s, u, l⟩, rfl, g⟩)
 exact ⟨u, l, rfl, g1, g2, g3⟩
def enc16 (n : Nat) : List AV := [.int .u16 (n : Int)]
end
end Go.Proofs.YtfempihpphbgmaaGreat.idx
namespace Go.Proofs.YtfempihpphbgmaaGreat.ready
open Go Go.Am Go.ChangeShapes Go.WideShapes Go.ChangeAt Go.RowKit
set_option linter.unusedVariables false
set_option linter.unusedSimpArgs false
abbrev P : Program := Tryz.prog
theorem own : ownKnob P.godebug = none := by kernel_rfl
theorem names : P.funcs.toList.all (fun fn => !(fn.name == "runtime.NumGoroutine")) = true := by kernel_rfl
theorem stood50 : P.stoodInHeld 50 = false ∧ P.eqGuardType P.depth 50 = false := ⟨by kernel_rfl, by kernel_rfl⟩
theorem stood65 : P.stoodInHeld 65 = false ∧ P.eqGuardType P.depth 65 = false := ⟨by kernel_rfl, by kernel_rfl⟩
theorem fields50 : (P.fieldsOf 50).toList.all (fun f => !(f.name == "_")) = true := by kernel_rfl
theorem fields65 : (P.fieldsOf 65).toList.all (fun f => !(f.name == "_")) = true := by kernel_rfl
theorem ext132 (a b : ByteArray) (w : World) : (callFunc 132 #[.string a, .string b]).run P w = .ok (.value (.int .i64 (Lib.compareBytes a.data.toList b.data.toList))) w := by
 have h : (callFunc 132 #[.string a, .string b]).run P w = ((do pure (.value (← Extern.BytealgCompare.compare #[.string a, .string b])) : Sem Next)).run P w := by kernel_rfl
 rw [h]
 simp only [Sem.run_bind, Lib.run_compareString, Result.andThen_ok, Sem.run_pure]
theorem size80 (w : World) : (Go.sizeOf 80).run P w = .ok 5 w := by kernel_rfl
theorem ext57 (args : Array Value) (w : World) : (callFunc 57 args).run P w = ((Extern.SlicesOverlaps.overlaps #[78, 78] #[4] args).run P w).andThen fun v w' => .ok (.value v) w' := by
 have h : (callFunc 57 args).run P w = ((do pure (.value (← Extern.SlicesOverlaps.overlaps #[78, 78] #[4] args)) : Sem Next)).run P w := by kernel_rfl
 rw [h]
 simp only [Sem.run_bind, Sem.run_pure]
theorem ready (A : Am.Ask) (h1 : ∀ t, t ∈ A.eqs → t = 50 ∨ t = 65) (h2 : ∀ x, x ∈ A.exts → x = (57, .apart) ∨ x = (132, .cmpstr)) : Am.Ready P A := by
 refine ⟨by kernel_rfl, fun t h => ?_, Am.enters_ok names, fun x h => ?_⟩
 ·rcases h1 t h with rfl | rfl
  ·refine ⟨stood50.1, stood50.2, fun f hf => ?_⟩
   have := List.all_eq_true.1 fields50 f hf
   simpa using this
  ·refine ⟨stood65.1, stood65.2, fun f hf => ?_⟩
   have := List.all_eq_true.1 fields65 f hf
   simpa using this
 ·rcases h2 x h with rfl | rfl
  ·exact ⟨78, 4, 80, 5, by kernel_rfl, size80, ext57⟩
  ·intro a b w
   rw [← cmp_bytes]
   exact ext132 a b w
theorem ready8 : Am.Ready P ins.A8 := ready _ (fun t h => by cases h) (fun x h => by
 simp only [ins.A8, List.mem_cons, List.not_mem_nil, or_false] at h
 exact .inl h)
def N0 : Am.Ask := { eqs := [50, 65], exts := [(57, .apart), (132, .cmpstr)], prims := [(31, ins.q31), (34, ins.q34)], pures := [46] }
theorem readyN : Am.Ready P N0 := ready _ (fun t h => by
 simp only [N0, List.mem_cons, List.not_mem_nil, or_false] at h
 exact h) (fun x h => by
 simp only [N0, List.mem_cons, List.not_mem_nil, or_false] at h
 exact h)
theorem primsN (Λ : LB) : ∀ x, x ∈ N0.prims → PrimOk Λ Tryz.prog x.1 x.2 := by
 intro x hx
 simp only [N0, List.mem_cons, List.not_mem_nil, or_false] at hx
 rcases hx with rfl | rfl
 ·exact ins.prim31 ready8
 ·exact ins.prim34 ready8
theorem answer : true = Am.saysK Tryz.prog N0 1000000 14 true := by kernel_rfl
theorem awake (W : World) : Calls Tryz.prog 14 #[] W fun e w' => e = .returned (.bool true) ∧ Below W.heap.size W w' :=
 Am.call_fast0 readyN primsN rfl 1000000 14 true answer W
open Go Go.Am Go.ChangeShapes Go.WideShapes Go.ChangeAt Go.RowKit Go.Proofs.YtfempihpphbgmaaGreat.idx
theorem readyA1 : Am.Ready P A1 := ready _ (fun t h => by
 simp only [A1, List.mem_cons, List.not_mem_nil, or_false] at h
 exact h) (fun x h => by
 simp only [A1, List.mem_cons, List.not_mem_nil, or_false] at h
 exact .inr h)
theorem readyAs : Am.Ready P As := ready _ (fun t h => by
 simp only [As, List.mem_cons, List.not_mem_nil, or_false] at h
 exact h) (fun x h => by
 simp only [As, List.mem_cons, List.not_mem_nil, or_false] at h
 exact .inr h)
theorem primsAs (Λ : LB) : ∀ x, x ∈ As.prims → PrimOk Λ Tryz.prog x.1 x.2 := by
 intro x hx
 simp only [As, List.mem_cons, List.not_mem_nil, or_false] at hx
 subst hx
 exact Am.boolQ_ok Tryz.func14 rfl awake
theorem primsA1 (Λ : LB) : ∀ x, x ∈ A1.prims → PrimOk Λ Tryz.prog x.1 x.2 := by
 intro x hx
 simp only [A1, List.mem_cons, List.not_mem_nil, or_false] at hx
 rcases hx with rfl | rfl | rfl | rfl
 ·exact Am.boolQ_ok Tryz.func14 rfl awake
 ·exact ins.prim31 ready8
 ·exact ins.prim34 ready8
 ·exact prim46 readyAs (primsAs Λ) (fun x hx => by cases hx)
end Go.Proofs.YtfempihpphbgmaaGreat.ready
namespace Go.Proofs.YtfempihpphbgmaaGreat.idx
open Go Go.Am Go.Proofs.YtfempihpphbgmaaGreat.mod
set_option linter.unusedVariables false
set_option linter.unusedSimpArgs false
@[simp] theorem o_st22 : slT C1 22 = some (33, 2, 40) := by kernel_rfl
@[simp] theorem o_cv3_30 : convT C1 3 30 = some .u64 := by kernel_rfl
@[simp] theorem o_st35 : slT C1 35 = some (4, 1, 1) := by kernel_rfl
@[simp] theorem o_st23 : slT C1 23 = some (36, 1, 2) := by kernel_rfl
@[simp] theorem o_ag36 : aggOf C1 36 = some false := by kernel_rfl
@[simp] theorem o_sz36 : szOf C1 36 = some 1 := by kernel_rfl
@[simp] theorem o_cv36_3 : convT C1 36 3 = some .i64 := by kernel_rfl
@[simp] theorem o_ag4 : aggOf C1 4 = some false := by kernel_rfl
@[simp] theorem o_sz4 : szOf C1 4 = some 1 := by kernel_rfl
theorem o_fn4 : C1.fns.get 4 = some Tryz.f4 := by kernel_rfl
theorem o_ok4 : codeOk C1 Tryz.f4.ntmps (Tryz.f4.body.getD .skip) = true := by kernel_rfl
@[simp] theorem o_un25 : und C1 25 = some (.slice 54) := by kernel_rfl
@[simp] theorem o_sz26 : szOf C1 26 = some 1 := by kernel_rfl
@[simp] theorem o_ze26 : zeroOf C1 26 = some (.nilp) := by kernel_rfl
@[simp] theorem o_ag26 : aggOf C1 26 = some false := by kernel_rfl
@[simp] theorem o_st51 : slT C1 51 = some (50, 4, 40) := by kernel_rfl
@[simp] theorem o_ag51 : aggOf C1 51 = some false := by kernel_rfl
@[simp] theorem o_mk52 : mapK C1 52 = some ((.int .u64), .int .i64 0) := by kernel_rfl
@[simp] theorem o_ag25 : aggOf C1 25 = some false := by kernel_rfl
@[simp] theorem o_mt52 : mapT C1 52 = true := by kernel_rfl
def EvA.d (e : EvA) : EvD := (e.key, e.atts)
def stOf (L : List EvA) (i : Nat) (n : Nat) : Option EvD := if n < i then (match L[n]? with | some e => if mayD e.d then some e.d else none | none => none) else none
theorem stOf_zero (L : List EvA) : stOf L 0 = fun _ => none := by funext n; simp [stOf]
theorem stOf_self (L : List EvA) (i : Nat) : stOf L i i = none := by simp [stOf]
theorem stOf_add {L : List EvA} {i : Nat} {e : EvA} (h : L[i]? = some e) : addE (stOf L i) i e.d = (if mayD e.d = true then 0 else 30) ∧ addS (stOf L i) i e.d = stOf L (i + 1) := by
 have he : addE (stOf L i) i e.d = (if mayD e.d = true then 0 else 30) := by
  unfold addE
  rw [stOf_self]
  cases mayD e.d <;> simp
 refine ⟨he, ?_⟩
 unfold addS
 rw [he]
 funext n
 cases hm : mayD e.d with
 | false =>
  simp
  unfold stOf
  by_cases hn : n = i
  ·subst hn; simp [h, hm]
  ·have : (n < i + 1) = (n < i) := by simp; omega
   simp [this]
 | true =>
  simp
  unfold updE stOf
  by_cases hn : n = i
  ·subst hn; simp [h, hm]
  ·have : (n < i + 1) = (n < i) := by simp; omega
   simp [hn, this]
theorem Step.out {S0 S T : AS} {X X' : XI} (h : Step S T X X') (hs : Sub S0 S) (hf : ∀ id, X.foot id → S0.next ≤ id) : Sub S0 T ∧ ∀ id, X'.foot id → S0.next ≤ id :=
 ⟨⟨fun id hid => by
  rw [h.keep.h id (Nat.lt_of_lt_of_le hid hs.next) (fun hw => by have := hf id (XI.wf_foot hw); omega)]
  exact hs.h id hid, Nat.le_trans hs.next h.keep.next⟩, fun id hid => (h.foot id hid).elim (hf id) fun h2 => Nat.le_trans hs.next h2⟩
structure Given (S : AS) (u : AV) (L : List EvA) : Prop where
 sl : Sl S u 2 (L.flatMap encEA)
 att : ∀ e, e ∈ L → AttsAt S e.u e.atts
 le : L.length ≤ 60
theorem Given.sub {S T : AS} {u : AV} {L : List EvA} (h : Given S u L) (hs : Sub S T) : Given T u L := ⟨h.sl.toSub hs, fun e he => (h.att e he).sub hs, h.le⟩
def ex1H (S0 : AS) (L : List EvA) (u g p : AV) (x : Nat) (k : Nat) (F' : Fr) (S' : AS) : Prop :=
 ∃ (i : Nat) (X : XI), Sub S0 S' ∧ Live S' X (stOf L i) (9 * i) ∧ X.x = x ∧ (∀ id, X.foot id → S0.next ≤ id) ∧ sl F' 0 = u ∧ sl F' 1 = g ∧ sl F' 2 = p ∧ sl F' 7 = .ptr x 0 0 2 ∧ sl F' 8 = .int .i64 (i : Int) ∧ i ≤ L.length ∧ k = L.length - i ∧ F'.n = 151
def stR (L : List EvA) (o : List Bool) (n : Nat) : Option EvD := match L[n]? with | some e => if mayD e.d && !((o[n]?).getD false) then some e.d else none | none => none
def ex2H (S0 : AS) (L : List EvA) (u g p w : AV) (x B : Nat) (gs : List Nat) (k : Nat) (F' : Fr) (S' : AS) : Prop :=
 ∃ (i : Nat) (X : XI) (o : List Bool), Sub S0 S' ∧ Live S' X (stR L o) 600 ∧ X.x = x ∧ (∀ id, X.foot id → S0.next ≤ id ∧ id ≠ B) ∧ o.length = L.length ∧ Gw S' w 1 4 (o.map AV.bool) ∧ bnd w = B + 1 ∧ S0.next ≤ B ∧ sl F' 0 = u ∧ sl F' 1 = g ∧ sl F' 2 = p ∧ sl F' 7 = .ptr x 0 0 2 ∧ sl F' 9 = w ∧ sl F' 10 = .int .i64 (i : Int) ∧ i ≤ gs.length ∧ k = gs.length - i ∧ F'.n = 151
def ex2M (S0 : AS) (L : List EvA) (u p w : AV) (x B : Nat) (F' : Fr) (S' : AS) : Prop :=
 ∃ (X : XI) (o : List Bool), Sub S0 S' ∧ Live S' X (stR L o) 600 ∧ X.x = x ∧ o.length = L.length ∧ Sl S' w 1 (o.map AV.bool) ∧ sl F' 0 = u ∧ sl F' 2 = p ∧ sl F' 7 = .ptr x 0 0 2 ∧ sl F' 9 = w ∧ F'.n = 151
def wantN (st : Nat → Option EvD) (cs : List Con) (i : Nat) : List Nat := (List.range i).filter fun n => match st n with | some d => matchB cs d.2 | none => false
def ex3H (S0 : AS) (L : List EvA) (u p w v : AV) (st : Nat → Option EvD) (cs : List Con) (k : Nat) (F' : Fr) (S' : AS) : Prop :=
 ∃ (i : Nat) (z : AV), Sub S0 S' ∧ Own S' S0.next z 1 30 (numL (wantN st cs i)) ∧ sl F' 0 = u ∧ sl F' 2 = p ∧ sl F' 9 = w ∧ sl F' 13 = v ∧ sl F' 15 = z ∧ sl F' 16 = .int .i64 (i : Int) ∧ i ≤ L.length ∧ k = L.length - i ∧ F'.n = 151
theorem x0_foot {n id : Nat} (h : (X0 n).foot id) : n ≤ id := by
 rcases h with h | h | h | ⟨m, hm, _⟩ | ⟨m, hm, _⟩
 ·show n ≤ id; rw [h]; show n ≤ n + 2; omega
 ·rw [h]; exact Nat.le_refl _
 ·rw [h]; show n ≤ n + 1; omega
 ·cases hm
 ·cases hm
section
variable {S : AS}
end
def AskAt (T : AS) (st : Nat → Option EvD) (c : Con) (r : AV) : Prop :=
 (mayP [c] = false ∧ r = .nilm) ∨ (mayP [c] = true ∧ ∃ (id : Nat) (l : List Nat), r = .map id ∧ Mp T (.map id) (fun n : Nat => AV.int .u64 (n : Int)) (l.map fun n => (n, AV.int .i64 1)) ∧ l.Pairwise (· < ·) ∧ ∀ n, n ∈ l ↔ ∃ v, st n = some v ∧ matchB [c] v.2 = true)
theorem Mp.toSub {κ : Type} {S T : AS} {x : AV} {enc : κ → AV} {m : List (κ × AV)} (h : Mp S x enc m) (hs : Sub S T) : Mp T x enc m := by
 obtain ⟨id, es, clock, rfl, h1, h2, h3⟩ := h
 exact ⟨id, es, clock, rfl, Nat.lt_of_lt_of_le h1 hs.next, by rw [hs.h id h1]; exact h2, h3⟩
theorem AskAt.sub {S T : AS} {st : Nat → Option EvD} {c : Con} {r : AV} (h : AskAt S st c r) (hs : Sub S T) : AskAt T st c r := by
 rcases h with h | ⟨h, id, l, h1, h2, h3⟩
 ·exact .inl h
 ·exact .inr ⟨h, id, l, h1, Mp.toSub h2 hs, h3⟩
def akH (S0 T : AS) (v : AV) (l : List Nat) (code : Int) (k : Nat) (F' : Fr) (S' : AS) : Prop :=
 ∃ i : Nat, Sub T S' ∧ Mp S' (.map T.next) (fun n : Nat => AV.int .u64 (n : Int)) ((l.take i).map fun n => (n, AV.int .i64 1)) ∧ sl F' 8 = .nilm ∧ sl F' 9 = v ∧ sl F' 10 = .int .i64 code ∧ sl F' 11 = .map T.next ∧ sl F' 12 = .int .i64 (i : Int) ∧ i ≤ l.length ∧ k = l.length - i ∧ F'.n = 39
section
variable {S : AS} {X : XI} {st : Nat → Option EvD} {K : Nat}
end
theorem getA_some {l : List Att} {s : List Nat} : (getA l s).isSome = true ↔ ∃ v, (⟨s, v⟩ : Att) ∈ l := by
 unfold getA
 constructor
 ·intro h
  cases hf : l.find? fun a => eqS a.name s with
  | none => rw [hf] at h; cases h
  | some a =>
   have h1 := List.find?_some hf
   rw [eqS_eq] at h1
   refine ⟨a.val, ?_⟩
   have : (⟨s, a.val⟩ : Att) = a := by rw [← (of_decide_eq_true h1)]
   rw [this]; exact List.mem_of_find?_eq_some hf
 ·rintro ⟨v, hv⟩
  cases hf : l.find? fun a => eqS a.name s with
  | none =>
   have := List.find?_eq_none.1 hf _ hv
   simp [eqS_eq] at this
  | some a => rfl
theorem entries_live {S : AS} {X : XI} {st : Nat → Option EvD} {K : Nat} (h : Live S X st K) (s : List Nat) {l : List Nat} (hl : l.Nodup) (hm : ∀ n, n ∈ l ↔ ∃ v, st n = some v ∧ (getA v.2 s).isSome = true) :
  CallW C1 18 [.ptr X.x 0 0 2, .str s] S fun v T => T = S ∧ v = .int .i64 (l.length : Int) := by
 have hi := h.ix
 have hnum : ∀ n, n ∈ (entL X s).map Ent.n ↔ n ∈ l := fun n => by
  rw [hm n, List.mem_map]
  constructor
  ·rintro ⟨e, he, rfl⟩
   obtain ⟨ev, h1, h2, h3⟩ := (hi.entM s e).1 he
   exact ⟨(ev.key, ev.atts), (h.reps _ _).2 ⟨ev, h1, h2, rfl⟩, getA_some.2 ⟨_, h3⟩⟩
  ·rintro ⟨v, h1, h2⟩
   obtain ⟨ev, h3, h4, rfl⟩ := (h.reps n v).1 h1
   obtain ⟨x, hx⟩ := getA_some.1 h2
   exact ⟨⟨x, n⟩, (hi.entM s ⟨x, n⟩).2 ⟨ev, h3, h4, hx⟩, rfl⟩
 have hinj : ∀ x y, x ∈ entL X s → y ∈ entL X s → x.n = y.n → x = y := fun x y hx hy hxy => by
  obtain ⟨e, h1, h2, h3⟩ := (hi.entM s x).1 hx
  obtain ⟨e', h4, h5, h6⟩ := (hi.entM s y).1 hy
  have hee : e = e' := Classical.byContradiction fun hq => pw_ne hi.evk h1 h4 hq (by rw [h2, h5, hxy])
  subst hee
  have hml := (evMay_l (h.may e h1)).1
  have hv : (⟨s, x.v⟩ : Att) = ⟨s, y.v⟩ := Classical.byContradiction fun hq => by
   have hr := names_rise hml
   have : e.atts.Pairwise fun a b => a.name ≠ b.name := hr.imp fun {a b} hab e0 => by rw [e0, ltS_irr] at hab; cases hab
   exact pw_ne this h3 h6 hq rfl
  obtain ⟨xv, xn⟩ := x
  obtain ⟨yv, yn⟩ := y
  simp only [Att.mk.injEq, true_and] at hv
  simp only at hxy
  rw [hv, hxy]
 have hnd : (entL X s).Nodup := (hi.entR s).imp fun {a b} hab e0 => by
  rw [e0] at hab
  have := ordE_ord.self b; omega
 have hlen : (entL X s).length = l.length := by
  have hp : ((entL X s).map Ent.n).Perm l := (List.perm_ext_iff_of_nodup (nodup_map hinj hnd) hl).2 hnum
  have := hp.length_eq
  rwa [List.length_map] at this
 refine (entries18 hi s).mono ?_
 rintro v T ⟨rfl, hv⟩
 refine ⟨rfl, ?_⟩
 rcases hv with ⟨m, hm', hn, rfl⟩ | ⟨hno, rfl⟩
 ·rcases hi.ent s with ⟨m', h1, h2, h3, h4⟩ | ⟨_, _, h3, _⟩
  ·have hmm : m = m' := Classical.byContradiction fun hq => pw_ne hi.nmk hm' h1 hq (hn.trans h2.symm)
   rw [hmm, ← h4, hlen]
  ·exact absurd hn (h3 m hm')
 ·have : entL X s = [] := by
   cases he : entL X s with
   | nil => rfl
   | cons a l => exact absurd ((hi.entM s a).1 (by rw [he]; exact List.mem_cons_self ..)) (hno a)
  rw [this] at hlen
  simp at hlen
  rw [← hlen]
  rfl
def stY (L : List EvA) (m : EvD) (j : Nat) (n : Nat) : Option EvD := if n = 99 then (if mayD m then some m else none) else if j ≤ n then stOf L L.length n else none
theorem stY_top (L : List EvA) (m : EvD) : addS (fun _ => none) 99 m = stY L m L.length := by
 funext n
 unfold addS addE updE stY stOf
 by_cases h : n = 99
 ·cases hm : mayD m <;> simp [h, hm]
 ·cases hm : mayD m <;> simp [h, hm] <;> (intro h1 h2; omega)
theorem stY_down {L : List EvA} {m : EvD} {j : Nat} {e : EvA} (hj : j < 99) (h : L[j]? = some e) : addS (stY L m (j + 1)) j e.d = stY L m j := by
 have h0 : stY L m (j + 1) j = none := by
  unfold stY
  rw [if_neg (by omega), if_neg (by omega)]
 have hjl : j < L.length := (List.getElem?_eq_some_iff.1 h).1
 funext n
 unfold addS addE
 rw [h0]
 unfold updE stY
 by_cases hn : n = j
 ·subst hn
  have h99 : ¬ n = 99 := by omega
  have ho : stOf L L.length n = if mayD e.d then some e.d else none := by unfold stOf; rw [if_pos hjl, h]
  cases hm : mayD e.d <;> simp [hm, h99, ho]
 ·have hle : (j + 1 ≤ n) = (j ≤ n) := by simp; omega
  cases hm : mayD e.d <;> simp [hm, hn, hle]
theorem stY_end {L : List EvA} {m : EvD} (hl : L.length ≤ 60) : remS (stY L m 0) 99 = stOf L L.length := by
 funext n
 unfold remS updE stY
 by_cases h : n = 99
 ·subst h
  rw [if_pos rfl]
  unfold stOf
  rw [if_neg (by omega)]
 ·rw [if_neg h, if_neg h, if_pos (Nat.zero_le _)]
def hasN (st : Nat → Option EvD) (s : List Nat) (N : Nat) : List Nat := (List.range N).filter fun n => match st n with | some d => (getA d.2 s).isSome | none => false
theorem hasN_nd (st : Nat → Option EvD) (s : List Nat) (N : Nat) : (hasN st s N).Nodup := List.nodup_range.sublist List.filter_sublist
theorem hasN_mem {st : Nat → Option EvD} {s : List Nat} {N : Nat} (hs : ∀ n v, st n = some v → n < N) (n : Nat) : n ∈ hasN st s N ↔ ∃ v, st n = some v ∧ (getA v.2 s).isSome = true := by
 unfold hasN
 rw [List.mem_filter, List.mem_range]
 constructor
 ·rintro ⟨h1, h2⟩
  cases hn : st n with
  | none => rw [hn] at h2; cases h2
  | some v => rw [hn] at h2; exact ⟨v, rfl, h2⟩
 ·rintro ⟨v, h1, h2⟩
  exact ⟨hs n v h1, by rw [h1]; exact h2⟩
theorem stOf_lt {L : List EvA} {n : Nat} {v : EvD} (h : stOf L L.length n = some v) : n < L.length := by
 unfold stOf at h
 by_cases hn : n < L.length
 ·exact hn
 ·rw [if_neg hn] at h; cases h
theorem match_app (cs ds : List Con) (l : List Att) : matchB (cs ++ ds) l = (matchB cs l && matchB ds l) := by
 unfold matchB
 rw [List.any_append]
 simp
def bothL (a b : List Nat) : List Nat := a.filter fun n => decide (n ∈ b)
theorem bothL_rise {a b : List Nat} (h : a.Pairwise (· < ·)) : (bothL a b).Pairwise (· < ·) := h.sublist List.filter_sublist
theorem bothL_take {a b : List Nat} {i : Nat} {x : Nat} (h : a[i]? = some x) : bothL (a.take (i + 1)) b = bothL (a.take i) b ++ (if x ∈ b then [x] else []) := by
 obtain ⟨hi, e⟩ := List.getElem?_eq_some_iff.1 h
 unfold bothL
 rw [List.take_succ_eq_append_getElem hi, List.filter_append, e]
 congr 1
 by_cases hx : x ∈ b <;> simp [hx]
theorem told_both {st : Nat → Option EvD} {cs ds : List Con} {a b d : List Nat} (ha : ∀ n, n ∈ a ↔ ∃ v, st n = some v ∧ matchB cs v.2 = true) (hb : ∀ n, n ∈ b ↔ ∃ v, st n = some v ∧ matchB ds v.2 = true) (hd : ∀ n, n ∈ d ↔ ∃ v, st n = some v ∧ matchB (cs ++ ds) v.2 = true)
  (ra : a.Pairwise (· < ·)) (rd : d.Pairwise (· < ·)) : d = bothL a b := by
 refine rise_eq rd (bothL_rise ra) fun n => ?_
 unfold bothL
 rw [hd n, List.mem_filter, ha n, decide_eq_true_eq, hb n]
 constructor
 ·rintro ⟨v, h1, h2⟩
  rw [match_app, Bool.and_eq_true] at h2
  exact ⟨⟨v, h1, h2.1⟩, v, h1, h2.2⟩
 ·rintro ⟨⟨v, h1, h2⟩, w, h3, h4⟩
  obtain rfl : v = w := by rw [h1] at h3; exact Option.some.inj h3
  exact ⟨v, h1, by rw [match_app, h2, h4]; rfl⟩
structure Two (S0 S : AS) (X Y : XI) (sx sy : Nat → Option EvD) (kx ky : Nat) (key : List Nat) (u : AV) : Prop where
 sub : Sub S0 S
 x : Live S X sx kx
 y : Live S Y sy ky
 fx : ∀ id, X.foot id → S0.next < id
 fy : ∀ id, Y.foot id → S0.next < id
 dis : ∀ id, X.foot id → ¬ Y.foot id
 g : S.h.get S0.next = some (.row [.str key, u] 0 0 false 33)
 lt : S0.next < S.next
section
variable {S0 S T : AS} {X Y X' : XI} {sx sy s' : Nat → Option EvD} {kx ky k' : Nat} {key : List Nat} {u : AV}
theorem Two.swap (h : Two S0 S X Y sx sy kx ky key u) : Two S0 S Y X sy sx ky kx key u := ⟨h.sub, h.y, h.x, h.fy, h.fx, fun id h1 h2 => h.dis id h2 h1, h.g, h.lt⟩
theorem Two.tosub (h : Two S0 S X Y sx sy kx ky key u) (hs : Sub S T) : Two S0 T X Y sx sy kx ky key u :=
 ⟨h.sub.trans hs, h.x.sub hs, h.y.sub hs, h.fx, h.fy, h.dis, (hs.h _ h.lt).trans h.g, Nat.lt_of_lt_of_le h.lt hs.next⟩
theorem Two.stepx (h : Two S0 S X Y sx sy kx ky key u) (hs : Step S T X X') (hl : Live T X' s' k') : Two S0 T X' Y s' sy k' ky key u := by
 have hw : ∀ id, X.wf id → S0.next < id := fun id hid => h.fx id (XI.wf_foot hid)
 refine ⟨⟨fun id hid => ?_, Nat.le_trans h.sub.next hs.keep.next⟩, hl, h.y.keep hs.keep (fun id h1 h2 => h.dis id (XI.wf_foot h2) h1), fun id hid => ?_, h.fy, fun id h1 h2 => ?_, ?_, Nat.lt_of_lt_of_le h.lt hs.keep.next⟩
 ·rw [hs.keep.h id (Nat.lt_of_lt_of_le hid h.sub.next) (fun h1 => by have := hw id h1; omega)]
  exact h.sub.h id hid
 ·rcases hs.foot id hid with h1 | h1
  ·exact h.fx id h1
  ·have := h.lt; omega
 ·rcases hs.foot id h1 with h3 | h3
  ·exact h.dis id h3 h2
  ·have := h.y.foot h2; omega
 ·rw [hs.keep.h _ h.lt (fun h1 => by have := hw _ h1; omega)]
  exact h.g
theorem Two.stepy (h : Two S0 S X Y sx sy kx ky key u) (hs : Step S T Y X') (hl : Live T X' s' k') : Two S0 T X X' sx s' kx k' key u := (h.swap.stepx hs hl).swap
end
def bo1H (S0 : AS) (L : List EvA) (u p q : AV) (xx yy : Nat) (key : List Nat) (mu : AV) (k : Nat) (F' : Fr) (S' : AS) : Prop :=
 ∃ (i : Nat) (X Y : XI), Two S0 S' X Y (stOf L i) (fun _ => none) (9 * i) 0 key mu ∧ X.x = xx ∧ Y.x = yy ∧ sl F' 0 = u ∧ sl F' 1 = p ∧ sl F' 2 = q ∧ sl F' 7 = .ptr S0.next 0 0 2 ∧ sl F' 9 = .ptr xx 0 0 2 ∧ sl F' 10 = .ptr yy 0 0 2 ∧ sl F' 11 = .int .i64 (i : Int) ∧ i ≤ L.length ∧ k = L.length - i ∧ F'.n = 168
theorem bo1H_mk {S0 : AS} {L : List EvA} {u p q : AV} {xx yy : Nat} {key : List Nat} {mu : AV} {k : Nat} {F' : Fr} {S' : AS} (i : Nat) (X Y : XI) (h : Two S0 S' X Y (stOf L i) (fun _ => none) (9 * i) 0 key mu) (hx : X.x = xx) (hy : Y.x = yy) (h0 : sl F' 0 = u) (h1 : sl F' 1 = p) (h2 : sl F' 2 = q) (h7 : sl F' 7 = .ptr S0.next 0 0 2) (h9 : sl F' 9 = .ptr xx 0 0 2)
  (h10 : sl F' 10 = .ptr yy 0 0 2) (h11 : sl F' 11 = .int .i64 (i : Int)) (hi : i ≤ L.length) (hk : k = L.length - i) (hn : F'.n = 168) : bo1H S0 L u p q xx yy key mu k F' S' := ⟨i, X, Y, h, hx, hy, h0, h1, h2, h7, h9, h10, h11, hi, hk, hn⟩
def bo2H (S0 : AS) (L : List EvA) (u p q : AV) (xx yy : Nat) (key : List Nat) (mu : AV) (m : EvD) (k : Nat) (F' : Fr) (S' : AS) : Prop :=
 ∃ (j : Nat) (X Y : XI), Two S0 S' X Y (stOf L L.length) (stY L m j) 600 (9 + 9 * (L.length - j)) key mu ∧ X.x = xx ∧ Y.x = yy ∧ sl F' 0 = u ∧ sl F' 1 = p ∧ sl F' 2 = q ∧ sl F' 9 = .ptr xx 0 0 2 ∧ sl F' 10 = .ptr yy 0 0 2 ∧ sl F' 12 = .int .i64 ((j : Int) - 1) ∧ j ≤ L.length ∧ k = j ∧ F'.n = 168
theorem bo2H_mk {S0 : AS} {L : List EvA} {u p q : AV} {xx yy : Nat} {key : List Nat} {mu : AV} {m : EvD} {k : Nat} {F' : Fr} {S' : AS} (j : Nat) (X Y : XI) (h : Two S0 S' X Y (stOf L L.length) (stY L m j) 600 (9 + 9 * (L.length - j)) key mu) (hx : X.x = xx) (hy : Y.x = yy) (h0 : sl F' 0 = u) (h1 : sl F' 1 = p) (h2 : sl F' 2 = q) (h9 : sl F' 9 = .ptr xx 0 0 2)
  (h10 : sl F' 10 = .ptr yy 0 0 2) (h11 : sl F' 12 = .int .i64 ((j : Int) - 1)) (hi : j ≤ L.length) (hk : k = j) (hn : F'.n = 168) : bo2H S0 L u p q xx yy key mu m k F' S' := ⟨j, X, Y, h, hx, hy, h0, h1, h2, h9, h10, h11, hi, hk, hn⟩
theorem wrap_pred {n : Nat} (h : n < 9223372036854775807) : IntKind.i64.wrap ((n : Int) - 1) = (n : Int) - 1 := by
 cases n with
 | zero => rfl
 | succ n =>
  have : ((n + 1 : Nat) : Int) - 1 = (n : Int) := by omega
  rw [this]
  exact wrap_nat (by omega)
theorem nt4 : Tryz.f4.ntmps = 168 := by kernel_rfl
def boM (S0 : AS) (L : List EvA) (u p q : AV) (xx yy : Nat) (F' : Fr) (S' : AS) : Prop :=
 ∃ (X Y : XI) (key : List Nat) (mu : AV), Two S0 S' X Y (stOf L L.length) (stOf L L.length) 600 600 key mu ∧ X.x = xx ∧ Y.x = yy ∧ sl F' 1 = p ∧ sl F' 2 = q ∧ sl F' 9 = .ptr xx 0 0 2 ∧ sl F' 10 = .ptr yy 0 0 2 ∧ F'.n = 168
def codeP (cs : List Con) : Int := if mayP cs then 0 else 30
theorem told_norm {T : AS} {st : Nat → Option EvD} {cs : List Con} {r : AV} (h : ToldS T st cs r) : ∃ (w : AV) (l : List Nat), r = .tuple [w, .int .i64 (codeP cs)] ∧ Sl T w 1 (numL l) ∧ l.Pairwise (· < ·) ∧ l.length ≤ 1048576 ∧ (mayP cs = true → ∀ n, n ∈ l ↔ ∃ x, st n = some x ∧ matchB cs x.2 = true) ∧ (mayP cs = false → l = []) := by
 unfold codeP
 rcases h with ⟨hm, hr⟩ | ⟨hm, w, l, hr, g3, g4, g5, g6⟩
 ·exact ⟨.nils, [], by rw [hm]; exact hr, Sl.nil, List.Pairwise.nil, by simp, fun h => (by rw [hm] at h; cases h), fun _ => rfl⟩
 ·exact ⟨w, l, by rw [hm]; exact hr, g3, g4, g5, fun _ => g6, fun h => (by rw [hm] at h; cases h)⟩
theorem told_same {st : Nat → Option EvD} {cs : List Con} {l m : List Nat} (h1 : mayP cs = true → ∀ n, n ∈ l ↔ ∃ x, st n = some x ∧ matchB cs x.2 = true) (h2 : mayP cs = false → l = []) (h3 : mayP cs = true → ∀ n, n ∈ m ↔ ∃ x, st n = some x ∧ matchB cs x.2 = true) (h4 : mayP cs = false → m = []) (hl : l.Pairwise (· < ·)) (hm : m.Pairwise (· < ·)) : l = m := by
 cases h : mayP cs with
 | true => exact rise_eq hl hm fun n => by rw [h1 h n, h3 h n]
 | false => rw [h2 h, h4 h]
theorem fits88 {n : Nat} (h : n ≤ 2097152) : fits n 88 = true := by
 unfold fits
 simp only [nble, Bool.and_eq_true, decide_eq_true_eq]
 have : n.mul 88 = n * 88 := rfl
 constructor <;> omega
theorem fits8' {n : Nat} (h : n ≤ 2097152) : fits n 8 = true := by
 unfold fits
 simp only [nble, Bool.and_eq_true, decide_eq_true_eq]
 have : n.mul 8 = n * 8 := rfl
 constructor <;> omega
def bo3H (U : AS) (la lb : List Nat) (va vb vd : AV) (k : Nat) (F' : Fr) (S' : AS) : Prop :=
 ∃ (i : Nat) (z : AV), Sub U S' ∧ Own S' U.next z 1 30 (numL (bothL (la.take i) lb)) ∧ sl F' 13 = va ∧ sl F' 15 = vb ∧ sl F' 20 = vd ∧ sl F' 21 = .int .i64 0 ∧ sl F' 22 = z ∧ sl F' 23 = .int .i64 (i : Int) ∧ i ≤ la.length ∧ k = la.length - i ∧ F'.n = 168
theorem bo3H_mk {U : AS} {la lb : List Nat} {va vb vd : AV} {k : Nat} {F' : Fr} {S' : AS} (i : Nat) (z : AV) (h1 : Sub U S') (h2 : Own S' U.next z 1 30 (numL (bothL (la.take i) lb))) (h3 : sl F' 13 = va) (h4 : sl F' 15 = vb) (h5 : sl F' 20 = vd) (h6 : sl F' 21 = .int .i64 0) (h7 : sl F' 22 = z) (h8 : sl F' 23 = .int .i64 (i : Int)) (h9 : i ≤ la.length) (ha : k = la.length - i) (hb : F'.n = 168) :
  bo3H U la lb va vb vd k F' S' := ⟨i, z, h1, h2, h3, h4, h5, h6, h7, h8, h9, ha, hb⟩
def bo4H (U : AS) (la lb : List Nat) (va vb vd : AV) (i x : Nat) (k : Nat) (F' : Fr) (S' : AS) : Prop :=
 ∃ (j : Nat) (z : AV), Sub U S' ∧ Own S' U.next z 1 30 (numL (bothL (la.take i) lb ++ (if x ∈ lb.take j then [x] else []))) ∧ sl F' 13 = va ∧ sl F' 15 = vb ∧ sl F' 20 = vd ∧ sl F' 21 = .int .i64 0 ∧ sl F' 22 = z ∧ sl F' 23 = .int .i64 (i : Int) ∧ sl F' 24 = .int .i64 (j : Int) ∧ j ≤ lb.length ∧ k = lb.length - j ∧ F'.n = 168
theorem bo4H_mk {U : AS} {la lb : List Nat} {va vb vd : AV} {i x : Nat} {k : Nat} {F' : Fr} {S' : AS} (j : Nat) (z : AV) (h1 : Sub U S') (h2 : Own S' U.next z 1 30 (numL (bothL (la.take i) lb ++ (if x ∈ lb.take j then [x] else [])))) (h3 : sl F' 13 = va) (h4 : sl F' 15 = vb) (h5 : sl F' 20 = vd) (h6 : sl F' 21 = .int .i64 0) (h7 : sl F' 22 = z) (h8 : sl F' 23 = .int .i64 (i : Int)) (h8' : sl F' 24 = .int .i64 (j : Int)) (h9 : j ≤ lb.length) (ha : k = lb.length - j) (hb : F'.n = 168) :
  bo4H U la lb va vb vd i x k F' S' := ⟨j, z, h1, h2, h3, h4, h5, h6, h7, h8, h8', h9, ha, hb⟩
theorem mem_take_succ {lb : List Nat} {j y x : Nat} (h : lb[j]? = some y) : x ∈ lb.take (j + 1) ↔ x ∈ lb.take j ∨ x = y := by
 obtain ⟨hj, e⟩ := List.getElem?_eq_some_iff.1 h
 rw [List.take_succ_eq_append_getElem hj, List.mem_append, List.mem_singleton, e]
theorem not_take {lb : List Nat} {j y : Nat} (hr : lb.Pairwise (· < ·)) (h : lb[j]? = some y) : y ∉ lb.take j := fun hm => by
 obtain ⟨hj, e⟩ := List.getElem?_eq_some_iff.1 h
 obtain ⟨a, ha, e2⟩ := List.mem_take_iff_getElem.1 hm
 have := List.pairwise_iff_getElem.1 hr a j (by omega) hj (by omega)
 omega
theorem numL_app (l : List Nat) (x : Nat) : numL (l ++ [x]) = numL l ++ [.int .u64 (x : Int)] := by simp [numL]
section
variable {S : AS}
set_option maxRecDepth 20000 in
set_option maxHeartbeats 4000000 in
theorem law4 {u0 p q mu : AV} {l : List EvA} {cs ds : List Con} {key : List Nat} {ma : List Att} (hu : Sl S u0 2 (l.flatMap encEA)) (ha : ∀ e, e ∈ l → AttsAt S e.u e.atts) (hl : l.length ≤ maxLen) (hp : PredAt S p cs) (hq : PredAt S q ds) (hm : AttsAt S mu ma) (lp : cs.length ≤ 1048576) (lq : ds.length ≤ 1048576) :
  CallW C1 4 [u0, p, q, .agg [.str key, mu]] S fun r T => r = .bool true := by
 have us := hu.sl
 have ul := hu.len_flat encEA_len (by omega)
 have uo := okW_sl hu
 obtain ⟨N, hN⟩ : ∃ N, N = min l.length 40 := ⟨_, rfl⟩
 have hcut := hu.cut (l := 0) (k := N) (Nat.zero_le _) (by rw [ul]; omega)
 have hsl : ∀ F : Fr, sl F 28 = .int .i64 (N : Int) → sliceV C1 F 22 u0 none (some (.tmp 28)) none = some (subA u0 0 N) := fun F h1 =>
  zbA o_st22 us zaU (by rw [zaB, zaE, h1, zaG]) (Nat.zero_le _) (by rw [ul]; omega)
 rw [Nat.zero_mul, List.drop_zero, Nat.sub_zero, fm_take encEA_len] at hcut
 generalize subA u0 0 N = u at hcut hsl
 obtain ⟨L, hL⟩ : ∃ L, L = l.take N := ⟨_, rfl⟩
 rw [← hL] at hcut
 have hLl : L.length = N := by rw [hL, List.length_take]; omega
 have hG : Given S u L := ⟨hcut, fun e he => ha e (by rw [hL] at he; exact List.mem_of_mem_take he), by omega⟩
 have vs := hG.sl.sl
 have vl := hG.sl.len_flat encEA_len (by omega)
 have vo := okW_sl hG.sl
 have vc := hG.sl.cells
 have mc := hm.sl.cells
 obtain ⟨M, hM⟩ : ∃ M : AS, M = ⟨S.h.set S.next (.row [.str key, mu] 0 0 false 33), S.next + 1⟩ := ⟨_, rfl⟩
 have hSM : Sub S M := by rw [hM]; exact sub1
 have hMn : M.next = S.next + 1 := by rw [hM]
 have gM : M.h.get S.next = some (.row [.str key, mu] 0 0 false 33) := by rw [hM]; exact gsS _ _ _
 obtain ⟨r0, T0, ⟨rfl, n1, n2, n3⟩, e0⟩ := (new_live (S := M)).ex
 obtain ⟨r1, T1, ⟨rfl, n4, n5, n6⟩, e1⟩ := (new_live (S := T0)).ex
 have hmin : (if (40 : Int) < (l.length : Int) then (40 : Int) else (l.length : Int)) = (N : Int) := by
  rw [hN]; split <;> omega
 have hTwo : Two S T1 (X0 M.next) (X0 T0.next) (fun _ => none) (fun _ => none) 0 0 key mu := by
  refine ⟨(hSM.trans n2).trans n5, n1.sub n5, n4, fun id hf => ?_, fun id hf => ?_, fun id h1 h2 => ?_, ?_, by omega⟩
  ·have := x0_foot hf; omega
  ·have := x0_foot hf; omega
  ·have h3 := n1.foot h1
   have := x0_foot h2; omega
  ·rw [n5.h _ (by omega), n2.h _ (by omega)]; exact gM
 generalize hxx : M.next + 2 = xx at e0
 generalize hyy : T0.next + 2 = yy at e1
 refine enterW (pu1 _) (pr1 _ rfl) o_fn4 rfl o_ok4 (by simp) fun F hn hs => ?_
 rw [nt4] at hn
 have s0 := hs 0
 have s1 := hs 1
 have s2 := hs 2
 have s3 := hs 3
 clear hs
 simp only [List.getElem?_cons_zero, List.getElem?_cons_succ, Option.getD_some] at s0 s1 s2 s3
 simp [-zaJ, s0, s1, s2, s3, us, ul, uo, hmin, min_two, hsl, vc, mc, ex1, ← hM, e0, e1]
 refine cut_of (bo1H S L u p q xx yy key mu 0) ?_ ?_
 rw [zaJ, zbV]
 refine zaH (bo1H S L u p q xx yy key mu) L.length (bo1H_mk 0 (X0 M.next) (X0 T0.next) (by rw [stOf_zero]; exact hTwo) hxx hyy (by simp) (by simp [s1]) (by simp [s2]) (by simp) (by simp) (by simp) (by simp) (Nat.zero_le _) rfl (by simp [hn])) ?_
 clear s0 s1 s2 s3 hn e0 e1 hM gM hSM n1 n2 n3 n4 n5 n6 hTwo
 rintro k F' S' hn' ⟨i, X, Y, q1, q2, q3, t0, t1, t2, t7, t9, t10, t11, hi, hk', hn⟩
 clear hn'
 by_cases hi' : i < L.length
 ·obtain ⟨e, hx⟩ : ∃ e, L[i]? = some e := ⟨_, List.getElem?_eq_getElem hi'⟩
  have hein : e ∈ L := List.mem_of_getElem? hx
  have hlo := zbC (cx := C1) (e := 33) (hG.sl.toSub q1.sub) encEA_len (by omega) hx o_ag33 o_sz33
  have hat := (hG.att e hein).sub q1.sub
  obtain ⟨a1, a2⟩ := stOf_add hx
  obtain ⟨r1, T2, ⟨X1, b1, b2, b3, rfl⟩, e1⟩ := (add_live (n := i) (key := e.key) q1.x hat (fun id hb hw => by
   have := q1.fx id (XI.wf_foot hw)
   have := (hG.att e hein).sl.old; omega) (by have := hG.le; omega)).ex
  rw [q2] at e1
  have hT2 := (q1.stepx b2 b1)
  have w8 := zaP (show i < 9223372036854775807 by omega)
  have w64 : IntKind.u64.wrap (i : Int) = (i : Int) := u64_nat (by omega)
  simp only [encEA] at hlo
  simp [t0, t1, t2, t7, t9, t10, t11, vs, vl, vo, hi', hlo, w64, ex1, e1]
  exact ⟨L.length - (i + 1), by omega, bo1H_mk (i + 1) X1 Y (by rw [← a2]; exact { hT2 with x := hT2.x.mono (by omega) }) (b3.trans q2) q3 (by simp [t0]) (by simp [t1]) (by simp [t2]) (by simp [t7]) (by simp [t9]) (by simp [t10]) (by simp [w8, -Int.natCast_add]) hi' rfl (by simp [hn])⟩
 ·obtain rfl : i = L.length := by omega
  simp [t0, t1, t2, t7, t9, t10, t11, vs, vl]
  exact bo1H_mk L.length X Y q1 q2 q3 (by simp [t0]) (by simp [t1]) (by simp [t2]) (by simp [t7]) (by simp [t9]) (by simp [t10]) (by simp [t11]) (Nat.le_refl _) (by omega) (by simp [hn])
 clear s0 s1 s2 s3 hn e0 e1 hM gM hSM n1 n2 n3 n4 n5 n6 hTwo
 rintro F2 S2 ⟨i, X, Y, q1, q2, q3, t0, t1, t2, t7, t9, t10, t11, hi, hk', hn⟩
 obtain rfl : i = L.length := by omega
 clear t11 hi hk'
 obtain ⟨r1, T2, ⟨Y1, b1, b2, b3, rfl⟩, e1⟩ := (add_live (n := 99) (key := key) q1.y (hm.sub q1.sub) (fun id hb hw => by
   have := q1.fy id (XI.wf_foot hw)
   have := hm.sl.old; omega) (by omega)).ex
 rw [q3] at e1
 have hT2 := q1.stepy b2 b1
 have hst : addS (fun _ => none) 99 (key, ma) = stY L (key, ma) L.length := stY_top L (key, ma)
 rw [hst] at hT2
 have hg7 := q1.g
 have hl7 := q1.lt
 have hmo := okW_sl hm.sl
 have e1' : ∀ Q, CallW C1 9 [AV.ptr yy 0 0 2, AV.int IntKind.u64 99, AV.agg [AV.str key, mu]] S2 Q = Q (AV.int .i64 (addE (fun _ => none) 99 (key, ma))) T2 := e1
 have w12 : IntKind.i64.wrap ((L.length : Int) - 1) = (L.length : Int) - 1 := wrap_pred (by have := hG.le; omega)
 simp [-zaJ, zaF, t0, t1, t2, t7, t9, t10, vs, vl, vo, ex1, hg7, ne_lt hl7, mc, hmo, e1', w12]
 refine cut_of (bo2H S L u p q xx yy key mu (key, ma) 0) ?_ ?_
 rw [zaJ, zbV]
 refine zaH (bo2H S L u p q xx yy key mu (key, ma)) L.length (bo2H_mk L.length X Y1 (by rw [Nat.sub_self]; exact { hT2 with x := hT2.x.mono (by have := hG.le; omega) }) q2 (b3.trans q3) (by simp [t0]) (by simp [t1]) (by simp [t2]) (by simp [t9]) (by simp [t10]) (by simp) (Nat.le_refl _) rfl (by simp [hn])) ?_
 clear t0 t1 t2 t7 t9 t10 hn e1 e1' q1 b1 b2 b3 q2 q3 hT2 hg7 hl7
 rintro k F' S' hn' ⟨j, X, Y, q1, q2, q3, t0, t1, t2, t9, t10, t12, hj, rfl, hn⟩
 clear hn'
 cases k with
 | succ j =>
  have hjl : j < L.length := by omega
  obtain ⟨e, hx⟩ : ∃ e, L[j]? = some e := ⟨_, List.getElem?_eq_getElem hjl⟩
  have hein : e ∈ L := List.mem_of_getElem? hx
  have hlo := zbC (cx := C1) (e := 33) (hG.sl.toSub q1.sub) encEA_len (by omega) hx o_ag33 o_sz33
  have hat := (hG.att e hein).sub q1.sub
  have a2 := stY_down (m := (key, ma)) (show j < 99 by have := hG.le; omega) hx
  obtain ⟨r1, T3, ⟨X1, b1, b2, b3, rfl⟩, e1⟩ := (add_live (n := j) (key := e.key) q1.y hat (fun id hb hw => by
   have := q1.fy id (XI.wf_foot hw)
   have := (hG.att e hein).sl.old; omega) (by have := hG.le; omega)).ex
  rw [q3] at e1
  have hT3 := (q1.stepy b2 b1)
  have t12' : sl F' 12 = .int .i64 (j : Int) := by rw [t12]; congr 1; omega
  have w8 : IntKind.i64.wrap ((j : Int) - 1) = (j : Int) - 1 := wrap_pred (by have := hG.le; omega)
  have w64 : IntKind.u64.wrap (j : Int) = (j : Int) := u64_nat (by have := hG.le; omega)
  have h0 : (0 : Int) ≤ (j : Int) := by omega
  simp only [encEA] at hlo
  simp [t0, t1, t2, t9, t10, t12', vs, vl, vo, hjl, h0, hlo, w64, ex1, e1]
  exact ⟨j, by omega, bo2H_mk j X X1 (by rw [← a2]; exact { hT3 with y := hT3.y.mono (by omega) }) q2 (b3.trans q3) (by simp [t0]) (by simp [t1]) (by simp [t2]) (by simp [t9]) (by simp [t10]) (by simp [w8]) (by omega) rfl (by simp [hn])⟩
 | zero =>
  have t12' : sl F' 12 = .int .i64 (-1) := by rw [t12]; rfl
  simp [t0, t1, t2, t9, t10, t12', vs, vl]
  exact bo2H_mk 0 X Y q1 q2 q3 (by simp [t0]) (by simp [t1]) (by simp [t2]) (by simp [t9]) (by simp [t10]) (by simp [t12]) (Nat.zero_le _) rfl (by simp [hn])
 clear t0 t1 t2 t7 t9 t10 hn e1 e1' q1 b1 b2 b3 q2 q3 hT2 hg7 hl7
 rintro F3 S3 ⟨j, X, Y, q1, q2, q3, t0, t1, t2, t9, t10, t12, hj, rfl, hn⟩
 have hle := hG.le
 obtain ⟨r1, T3, ⟨Y1, b1, b2, b3, rfl⟩, e1⟩ := (rem_live (n := 99) q1.y (by omega)).ex
 rw [q3] at e1
 have e1' : ∀ Q, CallW C1 11 [AV.ptr yy 0 0 2, AV.int IntKind.u64 99] S3 Q = Q (AV.int .i64 (remE (stY L (key, ma) 0) 99)) T3 := e1
 have hT3 := q1.stepy b2 b1
 rw [stY_end (by omega)] at hT3
 generalize hst : stOf L L.length = st at hT3
 have hlt : ∀ n v, st n = some v → n < L.length := fun n v h => stOf_lt (by rw [hst]; exact h)
 have hy3 := b3.trans q3
 clear b1 b2 b3 q1 q3 e1
 have po := okW_sl hp.sl
 have qo := okW_sl hq.sl
 obtain ⟨ra, T4, ⟨h4, ta⟩, ea⟩ := (query_live hT3.x (hp.sub hT3.sub) (by omega)).ex
 have k4 := hT3.tosub h4
 obtain ⟨rb, T5, ⟨h5, tb⟩, eb⟩ := (query_live k4.x (hq.sub k4.sub) (by omega)).ex
 have k5 := k4.tosub h5
 obtain ⟨rc, T6, ⟨h6, tc⟩, ec⟩ := (query_live k5.y (hp.sub k5.sub) (by omega)).ex
 have k6 := k5.tosub h6
 obtain ⟨r7, T7, ⟨h7, lx, g7, rise7, len7, mem7⟩, e7⟩ := (numbers_live k6.x (by omega)).ex
 have k7 := k6.tosub h7
 obtain ⟨r8, T8, ⟨h8, ly, g8, rise8, len8, mem8⟩, e8⟩ := (numbers_live k7.y (by omega)).ex
 have k8 := k7.tosub h8
 have hxy : lx = ly := rise_eq rise7 rise8 fun n => by rw [mem7 n, mem8 n]
 subst hxy
 obtain ⟨r9, T9, ⟨rfl, rfl⟩, e9⟩ := (up1 (same16 (g7.toSub h8) g8 len7 len7)).ex
 obtain ⟨r10, T10, ⟨rfl, rfl⟩, e10⟩ := (entries_live k8.x [97] (hasN_nd st _ L.length) (hasN_mem hlt)).ex
 obtain ⟨r11, T11, ⟨rfl, rfl⟩, e11⟩ := (entries_live k8.y [97] (hasN_nd st _ L.length) (hasN_mem hlt)).ex
 obtain ⟨va, la, rfl, a1, a2, a3, a4, a5⟩ := told_norm ta
 obtain ⟨vb, lb, rfl, b1, b2, b3, b4, b5⟩ := told_norm tb
 obtain ⟨vc', lc, rfl, c1, c2, c3, c4, c5⟩ := told_norm tc
 obtain rfl : la = lc := told_same a4 a5 c4 c5 a2 c2
 obtain ⟨r12, T12, ⟨rfl, rfl⟩, e12⟩ := (up1 (same16 ((a1.toSub h5).toSub h6) c1 a3 c3)).ex
 rw [q2] at ea eb e7 e10
 rw [hy3] at ec e8 e11
 have oa := okW_sl a1
 have ob := okW_sl b1
 have oc := okW_sl c1
 have na := a1.np
 have nb := b1.np
 have nc := c1.np
 have s7 := okW_sl g7
 have s8 := okW_sl g8
 have e10' : ∀ Q, CallW C1 18 [AV.ptr xx 0 0 2, AV.str [97]] T11 Q = Q (AV.int .i64 ((hasN st [97] L.length).length : Int)) T11 := e10
 obtain ⟨w1, U1, f1, f2, f3, f4, f5, f6, _⟩ := append_own (cx := C1) (lo := T11.next) (t := 25) (u := 25) (ts := []) (p := (54, 7, 88)) o_st25 o_un25 rfl (S := T11) (v := .nils) (x := p) (cs := []) (ds := cs.flatMap encC) Own.nil (Nat.le_refl _) (hp.sub k8.sub).sl (fits88 (by rw [hp.sl.len_flat zbF (by omega)]; simp [sLen]; omega))
 have hU1 := f3.sub
 obtain ⟨w2, U2, f7, f8, f9, f10, f11, f12, _⟩ := append_own (cx := C1) (lo := T11.next) (t := 25) (u := 25) (ts := []) (p := (54, 7, 88)) o_st25 o_un25 rfl (S := U1) (v := w1) (x := q) (cs := [] ++ cs.flatMap encC) (ds := ds.flatMap encC) f2 hU1.next ((hq.sub k8.sub).sub hU1).sl (fits88 (by rw [f5, hp.sl.len_flat zbF (by omega), hq.sl.len_flat zbF (by omega)]; simp [sLen]; omega))
 have hU2 : Sub T11 U2 := (f3.trans f9).sub
 rw [decide_eq_true rfl] at e9 e12
 have n1 : ¬ (isNil w1 = true ∧ False) := by simp
 have w1o := okW_sl f2.sl
 have w2o := okW_sl f8.sl
 simp [-zaJ, zaF, t1, t2, t9, t10, ex1, e1', ea, eb, ec, e7, e8, e9, e10', e11, e12, po, qo, oa, ob, oc, s7, s8, f1, f7, w1o, w2o]
 have hB : PredAt U2 w2 (cs ++ ds) := by
  refine ⟨by rw [List.flatMap_append]; exact f8.sl, fun c hc => ?_, by rw [List.length_append]; omega⟩
  rcases List.mem_append.1 hc with h | h
  ·exact (hp.con c h).sub ((k8.sub).trans hU2)
  ·exact (hq.con c h).sub ((k8.sub).trans hU2)
 obtain ⟨r13, U3, ⟨rfl, hU3⟩, e13⟩ := (up1 (mayPred hB)).ex
 obtain ⟨rd, U4, ⟨hU4, td⟩, ed⟩ := (query_live ((k8.tosub hU2).tosub hU3).x (hB.sub hU3) (by omega)).ex
 rw [q2] at ed
 obtain ⟨vd, ld, rfl, d1, d2, d3, d4, d5⟩ := told_norm td
 have od := okW_sl d1
 have nd := d1.np
 cases hmp : mayP cs with
 | false => simp [codeP, hmp, ex1, awake14]
 | true =>
 cases hmq : mayP ds with
 | false => simp [codeP, hmp, hmq, ex1, awake14]
 | true =>
 cases hmb : mayP (cs ++ ds) with
 | false =>
  rw [hmb] at e13
  simp [codeP, hmp, hmq, ex1, awake14, e13]
 | true =>
 rw [hmb] at e13
 have hce : codeP (cs ++ ds) = 0 := by unfold codeP; rw [hmb]; rfl
 rw [hce] at ed
 simp [-zaJ, codeP, hmp, hmq, ex1, awake14, e13, ed, t9, od]
 have hdl : ld = bothL la lb := told_both (a4 hmp) (b4 hmq) (d4 hmb) a2 d2
 have hsub : Sub T12 U4 := (((h7.trans h8).trans hU2).trans hU3).trans hU4
 have ha1 := a1.toSub ((h5.trans h6).trans hsub)
 have hb1 := b1.toSub (h6.trans hsub)
 have hv1 := ha1.sl
 have hv2 := ha1.len1
 have hw1 := hb1.sl
 have hw2 := hb1.len1
 rw [numL_len] at hv2 hw2
 have ova := okW_sl ha1
 have ovb := okW_sl hb1
 have ova' := ha1.ok
 have ovb' := hb1.ok
 rw [zaJ, zbV]
 refine zaH (bo3H U4 la lb va vb vd) la.length (bo3H_mk 0 .nils (Sub.refl U4) (by simpa [bothL, numL] using Own.nil) (by simp) (by simp) (by simp) (by simp) (by simp) (by simp) (Nat.zero_le _) rfl (by simp [hn])) ?_
 clear t0 t1 t2 t9 t10 hn e1' ea eb ec e7 e8 e9 e10 e10' e11 e12 e13 ed f1 f7
 rintro k F4 W hn' ⟨i, z, p1, p2, t13, t15, t20, t21, t22, t23, hi, hk, hn⟩
 clear hn'
 by_cases hi' : i < la.length
 ·obtain ⟨x, hx⟩ : ∃ x, la[i]? = some x := ⟨_, List.getElem?_eq_getElem hi'⟩
  have w23 := zaP (show i < 9223372036854775807 by omega)
  simp [t13, t15, t20, t21, t22, t23, hv1, hv2, hi']
  refine zaH (bo4H U4 la lb va vb vd i x) lb.length (bo4H_mk 0 z p1 (by simpa using p2) (by simp [t13]) (by simp [t15]) (by simp [t20]) (by simp [t21]) (by simp [t22]) (by simp [t23]) (by simp) (Nat.zero_le _) rfl (by simp [hn])) ?_
  clear t13 t15 t20 t21 t22 t23 hn
  rintro k2 F5 W2 hn' ⟨j, z2, p3, p4, t13, t15, t20, t21, t22, t23, t24, hj, hk2, hn⟩
  clear hn'
  by_cases hj' : j < lb.length
  ·obtain ⟨y, hy⟩ : ∃ y, lb[j]? = some y := ⟨_, List.getElem?_eq_getElem hj'⟩
   have lx := loadT_sl (cx := C1) (e := 30) (ha1.toSub p3) (numL_get hx) o_ag30
   have ly := loadT_sl (cx := C1) (e := 30) (hb1.toSub p3) (numL_get hy) o_ag30
   have w24 := zaP (show j < 9223372036854775807 by omega)
   simp [t13, t15, t20, t21, t22, t23, t24, hw1, hw2, hj', hn]
   refine still_ok (n := 168) (by kernel_rfl) (by simp [hn]) ?_
   by_cases hxy : x = y
   ·subst hxy
    have hno := not_take b2 hy
    rw [if_neg hno, List.append_nil] at p4
    obtain ⟨z', U5, g1, g2, g3, _⟩ := append_one (cx := C1) (t := 38) (u := 38) (ts := []) (p := (30, 1, 8)) (y := .int .u64 (x : Int)) o_st38 rfl o_un38 rfl p4 p3.next (by
     rw [numL_len]; exact fits8' (by have : (bothL (la.take i) lb).length ≤ la.length := Nat.le_trans (List.length_filter_le _ _) (by rw [List.length_take]; omega)
                                     omega))
    have hTU : Sub U4 U5 := ⟨fun id hid => (g3.h id hid).trans (p3.h id hid), Nat.le_trans p3.next g3.next⟩
    simp [t13, t15, t20, t21, t22, t23, t24, hv1, hv2, hw1, hw2, hi', hj', lx, ly, ova, ovb, ova', ovb', g1, p4.sl.cells]
    exact ⟨lb.length - (j + 1), by omega, bo4H_mk (j + 1) z' hTU (by rw [if_pos ((mem_take_succ hy).2 (.inr rfl)), numL_app]; exact g2) (by simp [t13]) (by simp [t15]) (by simp [t20]) (by simp [t21]) (by simp) (by simp [t23]) (by simp [w24, -Int.natCast_add]) hj' rfl (by simp [hn])⟩
   ·have hxy' : ¬ (x : Int) = (y : Int) := by omega
    simp [t13, t15, t20, t21, t22, t23, t24, hv1, hv2, hw1, hw2, hi', hj', lx, ly, ova, ovb, ova', ovb', hxy']
    have hiff : (if x ∈ lb.take (j + 1) then [x] else []) = (if x ∈ lb.take j then [x] else []) := by simp [mem_take_succ hy, hxy]
    exact ⟨lb.length - (j + 1), by omega, bo4H_mk (j + 1) z2 p3 (by rw [hiff]; exact p4) (by simp [t13]) (by simp [t15]) (by simp [t20]) (by simp [t21]) (by simp [t22]) (by simp [t23]) (by simp [w24, -Int.natCast_add]) hj' rfl (by simp [hn])⟩
  ·obtain rfl : j = lb.length := by omega
   rw [List.take_length, ← bothL_take hx] at p4
   simp [t13, t15, t20, t21, t22, t23, t24, hw1, hw2]
   exact ⟨la.length - (i + 1), by omega, bo3H_mk (i + 1) z2 p3 p4 (by simp [t13]) (by simp [t15]) (by simp [t20]) (by simp [t21]) (by simp [t22]) (by simp [w23, -Int.natCast_add]) hi' rfl (by simp [hn])⟩
 ·obtain rfl : i = la.length := by omega
  rw [List.take_length, ← hdl] at p2
  obtain ⟨r6, U6, ⟨rfl, rfl⟩, e6⟩ := (up1 (same16 (d1.toSub p1) p2.sl d3 d3)).ex
  rw [decide_eq_true rfl] at e6
  have oz := okW_sl p2.sl
  have od' := okW_sl d1
  simp [t13, t15, t20, t21, t22, t23, hv1, hv2, ex1, e6, awake14]
end
end Go.Proofs.YtfempihpphbgmaaGreat.idx
namespace Go.Am
open Go Go.RowKit Go.ChangeShapes Go.WideShapes Go.ChangeAt
set_option linter.unusedVariables false
def lenVal : Value → Nat | .slice _ n _ => n | _ => 0
theorem vrel_len {ρ : Rho} {u : AV} {v : Value} (h : VRel ρ u v) : sLen u ≤ lenVal v := by
 cases u <;> first | exact Nat.zero_le _ | skip
 simp only [VRel] at h
 obtain ⟨pl, c, _, _, _, _, _, h | h⟩ := h
 ·obtain ⟨rfl, _⟩ := h; exact Nat.le_refl _
 ·obtain ⟨h0, _⟩ := h; simp only [sLen, h0]; exact Nat.zero_le _
theorem lrel_at {ρ : Rho} : ∀ {l : List AV} {vs : List Value}, LRel ρ l vs → ∀ (j : Nat) u, l[j]? = some u → ∃ v, vs[j]? = some v ∧ VRel ρ u v
 | [], _, _, j, u, hu => by simp at hu
 | x :: xs, vs, h, j, u, hu => by
  simp only [LRel] at h
  obtain ⟨y, ys, rfl, h1, h2⟩ := h
  cases j with
  | zero => simp at hu; subst hu; exact ⟨y, rfl, h1⟩
  | succ j => exact lrel_at h2 j u (by simpa using hu)
theorem law_args_len {H : Type} {enc : TypeId × Value → H} {P : Program} {A : Ask} {W : World} {base : Nat} {held : Bool} {B : Nat → Prop} (hB : ∀ b, B b → b < W.heap.size) (hr : Ready P A) (hp : ∀ x, x ∈ A.prims → PrimOk ⟨W, fun b => b < W.heap.size⟩ P x.1 x.2)
  (hg : ∀ x, x ∈ A.globs → GlobOk W B x.1 x.2) {f : FuncId} {args : Array Value} {ts : List TypeId} {ds : List (DataW H)} {p : List MemPlace} {r : Reach} {b0 N : Nat} (m : Nat) (ht : ts.all (plainT (mkCx P A) m) = true)
  (hv : ∀ (j : Nat) t v, ts[j]? = some t → args[j]? = some v → Value.okWide P W r b0 t v) (h : DataW.TrodAll enc P W base (fun _ => true) held ts args.toList ds p) (hW : ∀ n, n ∈ DataW.weightsEach P ts ds → n ≤ reachBytes)
  (J : List Nat) (hN : ∀ (j : Nat) v, j ∈ J → args.toList[j]? = some v → lenVal v ≤ N)
  (hc : ∀ (S : AS) (vals : List AV), (∀ id, S.next ≤ id → S.h.get id = none) → typedArgs (mkCx P A) S m ts vals → (∀ (j : Nat) u, j ∈ J → vals[j]? = some u → sLen u ≤ N) → CallW (mkCx P A) f vals S fun v _ => v = .bool true) :
  Calls P f args W fun e w' => e = .returned (.bool true) ∧ Below W.heap.size W w' := by
 have hg' : ∀ x, x ∈ A.globs → GlobOk W (fun b => b < W.heap.size) x.1 x.2 := fun x hx => let ⟨a, b⟩ := hg x hx; ⟨hB _ a, b⟩
 have hcx := cx_ok (Λ := ⟨W, fun b => b < W.heap.size⟩) hr hp hg'
 have hR0 := empty_R (Λ := ⟨W, fun b => b < W.heap.size⟩) W (Nat.le_refl _) (fun b hb => ⟨hb, rfl⟩)
 obtain ⟨S, ρ, l, _, _, hR, hl, hty⟩ := absorb_all hcx (r := r) (b0 := b0) ts args.toList ds p ⟨.leaf, 0⟩ _ ht (fun j t v h1 h2 => hv j t v h1 (by rw [← Array.getElem?_toList]; exact h2)) (fun id o ho => by cases ho) hR0 h hW
 have hdom : ∀ id, S.next ≤ id → S.h.get id = none := by
  intro id hi
  cases ho : S.h.get id with
  | none => rfl
  | some o => have := hR.dom id o ho; omega
 have hlen : ∀ (j : Nat) u, j ∈ J → l[j]? = some u → sLen u ≤ N := fun j u hj hu => by
  obtain ⟨v, h1, h2⟩ := lrel_at hl j u hu
  exact Nat.le_trans (vrel_len h2) (hN j v hj h1)
 refine (calls_of hr hp hg' hR hl (hc S l hdom hty hlen)).2.mono ?_
 rintro e w' ⟨x, v, S', ρ', rfl, h1, rfl, h3, h4⟩
 simp only [VRel] at h1
 refine ⟨by rw [h1], h4.os, h4.tape, h4.output, h4.size, fun k hk => (h3.base k hk).2.1⟩
def lenD {H : Type} : DataW H → Nat | .slice e _ => e.length | _ => 0
theorem range_len {α : Type} {f : Nat → Option α} {n : Nat} {l : List α} (h : (List.range n).mapM f = some l) : l.length = n := by
 have : ∀ (m : List Nat) (l : List α), m.mapM f = some l → l.length = m.length := by
  intro m
  induction m with
  | nil => intro l h; simp at h; subst h; rfl
  | cons a m ih =>
   intro l h
   rw [List.mapM_cons] at h
   cases ha : f a with
   | none => rw [ha] at h; cases h
   | some b =>
    rw [ha] at h
    cases hm : m.mapM f with
    | none => rw [hm] at h; cases h
    | some l' =>
     rw [hm] at h
     have e : l = b :: l' := (Option.some.inj h).symm
     rw [e, List.length_cons, ih l' hm, List.length_cons]
 rw [this _ _ h, List.length_range]
theorem trod_len {H : Type} {enc : TypeId × Value → H} {P : Program} {w : World} {base : Nat} {sp : Nat → Bool} {held : Bool} {t e : TypeId} {v : Value} {d : DataW H} {ps : List MemPlace} (hu : P.underlying t = some (.slice e)) (h : DataW.Trod enc P w base sp held t v d ps) : lenVal v ≤ lenD d := by
 obtain ⟨fuel, h⟩ := h
 cases v <;> first | exact Nat.zero_le _ | skip
 rename_i a n c
 cases fuel with
 | zero => cases h
 | succ fuel =>
  have hc : (Value.slice a n c).cells.toList = [.slice a n c] := rfl
  rw [hc] at h
  unfold DataW.trod at h
  rw [hu] at h
  cases a with
  | none =>
   cases n with
   | zero => exact Nat.zero_le _
   | succ n => simp at h
  | some a =>
   simp only at h
   split at h
   ·rename_i hle
    obtain ⟨els, h1, h2⟩ := Option.bind_eq_some_iff.1 h
    obtain ⟨rest, h3, h4⟩ := Option.map_eq_some_iff.1 h2
    have e := congrArg Prod.fst h4
    simp only at e
    subst e
    simp only [lenVal, lenD, List.length_map, range_len h1]
    exact Nat.le_refl _
   ·cases h
theorem trodAll_at {H : Type} {enc : TypeId × Value → H} {P : Program} {w : World} {base : Nat} {sp : Nat → Bool} {held : Bool} : ∀ {ts : List TypeId} {vs : List Value} {ds : List (DataW H)} {ps : List MemPlace}, DataW.TrodAll enc P w base sp held ts vs ds ps → ∀ (j : Nat) t e v, ts[j]? = some t → P.underlying t = some (.slice e) → vs[j]? = some v → ∃ d, d ∈ ds ∧ lenVal v ≤ lenD d
 | [], vs, ds, ps, h, j, t, e, v, ht, _, _ => by simp at ht
 | t0 :: ts, vs, ds, ps, h, j, t, e, v, ht, hu, hv => by
  cases vs with
  | nil => simp at hv
  | cons a vs =>
   cases ds with
   | nil => exact h.elim
   | cons d ds =>
    obtain ⟨p, q, h1, h2, _⟩ := h
    cases j with
    | zero =>
     simp at ht hv
     subst ht; subst hv
     exact ⟨d, List.mem_cons_self .., trod_len hu h1⟩
    | succ j =>
     obtain ⟨d', h3, h4⟩ := trodAll_at h2 j t e v (by simpa using ht) hu (by simpa using hv)
     exact ⟨d', List.mem_cons_of_mem _ h3, h4⟩
theorem handed_of_law_cond {H : Type} {enc : TypeId × Value → H} {a : Assume} {C : Checked} {os : Os} {f : FuncId} {fn : Func} {s : ChangeSpec} {k : (H : Type) → List (DataW H) → Bool} {conds : List PathCond} {apart : Bool}
  (own : ownKnob C.prog.godebug = none) (started : os.Started) (noInit : C.prog.inits.idxOf? f = none) (hfn : C.prog.funcs[f]? = some fn)
  (witness : ∃ (w : World) (tape : Tape) (i : Input), w.os = os ∧ (w.forCall tape i).Shaped C.prog ∧ i.vars = [] ∧ Input.okWide C.prog (w.forCall tape i) .any w.heap.size f i ∧
   ({ OpenSpec.ofChange s with cond := some k } : OpenSpec).pre6 enc C.prog fn conds apart (w.forCall tape i).memory i.args ∧ a.holds C.prog (lone (Frame.enter C.prog f i.args .normal) [] (w.forCall tape i)))
  (hlaid : laidOutB C.prog = true) (hread : fn.params.toList.all (fun t => C.prog.readableRec t && decide (t < C.prog.types.size)) = true) {tb : TypeId} (hres : fn.resultTypes = #[tb]) (hb : C.prog.underlying tb = some .bool)
  (hv : s.vars = []) (hs : ∀ ds : List (DataW H), ds.length = fn.params.toList.length → s.fn H ds = { results := [.lit (.bool true)], args := ds })
  (law : ∀ (W : World) (base : Nat) (args : Array Value) (ds : List (DataW H)) (p : List MemPlace), (∀ (j : Nat) t v, fn.params.toList[j]? = some t → args[j]? = some v → Value.okWide C.prog W .any base t v) →
   DataW.TrodAll enc C.prog W 0 (fun _ => true) true fn.params.toList args.toList ds p → (∀ n, n ∈ DataW.weightsEach C.prog fn.params.toList ds → n ≤ reachBytes) → k H ds = true → Calls C.prog f args W fun e w' => e = .returned (.bool true) ∧ Below W.heap.size W w') :
  ReturnsInHanded a C os f .any (({ OpenSpec.ofChange s with cond := some k } : OpenSpec).pre6 enc C.prog fn conds apart) (s.post enc C.prog fn apart true false false) := by
 refine returnsInHanded_of_calls own started noInit witness ?_
 intro w tape i _ _ _ hok hpre hholds
 obtain ⟨_, _, _, fn', hfn', _, _, _, _, hval⟩ := hok
 have e : fn' = fn := Option.some.inj (hfn'.symm.trans hfn)
 subst e
 obtain ⟨ds, gs, before, hw, hc, hk⟩ := (OpenSpec.pre_some rfl conds apart _ _).1 hpre.1
 have hz := hpre.2.weights hw
 have hW := DataW.Whole.of_heap (w' := w.forCall tape i) (by rfl) hw
 have hW' := hW
 obtain ⟨p, q, hA, hV, rfl, _, _⟩ := hW
 have hv' : ({ OpenSpec.ofChange s with cond := some k } : OpenSpec).vars = [] := hv
 rw [hv'] at hV
 have hgs : gs = [] ∧ q = [] := by
  cases gs with
  | nil => exact ⟨rfl, hV⟩
  | cons g gs => exact hV.elim
 obtain ⟨rfl, rfl⟩ := hgs
 have hvt : ({ OpenSpec.ofChange s with cond := some k } : OpenSpec).bare.plain.varTypes C.prog = [] := by
  show List.filterMap _ s.vars = []
  rw [hv]
  rfl
 rw [hvt, List.append_nil, List.append_nil] at hz
 rw [List.append_nil] at hk
 refine (law (w.forCall tape i) w.heap.size i.args ds p (fun j t v h1 h2 => hval j t v (by rw [← Array.getElem?_toList]; exact h1) h2) hA (fun n hn => of_decide_eq_true (List.all_eq_true.1 hz n hn)) hk).mono fun e W' ⟨he, hbl⟩ => ?_
 subst he
 have hlen : ds.length = fn'.params.toList.length := trodAll_len _ _ _ _ hA
 have hfs := hs ds hlen
 refine ChangeSpec.post_blind ?_
 refine ⟨ds, [], _, [], p, [], hW', ?_, ?_, ?_, hbl.frame _, fun h => by cases h⟩
 ·rw [List.append_nil, hfs, hres]
  exact trodAll_mk1 (shut_bool hb _)
 ·rw [List.append_nil, hfs]
  exact trodAll_below hlaid hbl _ _ _ _ hread hA (trodAll_lt _ _ _ _ hA)
 ·rw [List.append_nil, hfs, hv]
  rfl
end Go.Am
end
