/-
  An index as what it stands for: events by numbers.
  Arguments from outside: numbers, texts, values, attributes, events, constraints, predicates.
  What the claims on the index share: the examples run whole; the program is ready for the machine.
  The program is ready for the index's context; its contracts hold.
  IndexExact: just those that match.
-/
import Derived.Test.YtfempihpphbgmaaGreatPartD
import Derived.Test.YtfempihpphbgmaaGreatAmArgs
import Derived.Test.YtfempihpphbgmaaGreatPartC
import Derived.Test.YtfempihpphbgmaaGreatAmHanded
import Derived.Test.YtfempihpphbgmaaGreatAmFast
import Derived.Test.YtfempihpphbgmaaGreatAmPrim
import Derived.LaidLaws
import Derived.Lib.LaidTab
import Derived.WalkKit
import Derived.ProofKit
namespace Go.Proofs.YtfempihpphbgmaaGreat.idx
open Go Go.Am Go.Proofs.YtfempihpphbgmaaGreat.mod
set_option linter.unusedVariables false
set_option linter.unusedSimpArgs false
abbrev EvD := List Nat × List Att
noncomputable def mayD (v : EvD) : Bool := evMay v.1 v.2
structure Live (S : AS) (X : XI) (st : Nat → Option EvD) (K : Nat) : Prop where
 ix : IxAt S X (hasP X)
 ne : NoEmpty X
 may : ∀ e, e ∈ X.evs → evMay e.key e.atts = true
 reps : ∀ n v, st n = some v ↔ ∃ e, e ∈ X.evs ∧ e.n = n ∧ (e.key, e.atts) = v
 k : X.k ≤ K
theorem Live.sub {S T : AS} {X : XI} {st : Nat → Option EvD} {K : Nat} (h : Live S X st K) (hs : Sub S T) : Live T X st K := { h with ix := h.ix.sub hs }
theorem Live.mono {S : AS} {X : XI} {st : Nat → Option EvD} {K K' : Nat} (h : Live S X st K) (hk : K ≤ K') : Live S X st K' := { h with k := Nat.le_trans h.k hk }
theorem Live.keep {S T : AS} {A : Nat → Prop} {X : XI} {st : Nat → Option EvD} {K : Nat} (h : Live S X st K) (hs : Keep A S T) (ha : ∀ id, X.foot id → ¬ A id) : Live T X st K := { h with ix := h.ix.keep hs ha }
theorem Live.foot {S : AS} {X : XI} {st : Nat → Option EvD} {K : Nat} (h : Live S X st K) {id : Nat} (hf : X.foot id) : id < S.next := h.ix.foot_lt hf
noncomputable def updE (st : Nat → Option EvD) (n : Nat) (v : Option EvD) (m : Nat) : Option EvD := if m = n then v else st m
noncomputable def addE (st : Nat → Option EvD) (n : Nat) (v : EvD) : Int := if mayD v = false then 30 else if (st n).isSome then 9 else 0
noncomputable def addS (st : Nat → Option EvD) (n : Nat) (v : EvD) : Nat → Option EvD := if addE st n v = 0 then updE st n (some v) else st
noncomputable def remE (st : Nat → Option EvD) (n : Nat) : Int := if (st n).isSome then 0 else 6
noncomputable def remS (st : Nat → Option EvD) (n : Nat) : Nat → Option EvD := updE st n none
def ToldS (T : AS) (st : Nat → Option EvD) (cs : List Con) (r : AV) : Prop :=
 (mayP cs = false ∧ r = .tuple [.nils, .int .i64 30]) ∨ (mayP cs = true ∧ ∃ v l, r = .tuple [v, .int .i64 0] ∧ Sl T v 1 (numL l) ∧ l.Pairwise (· < ·) ∧ l.length ≤ 1048576 ∧ ∀ n, n ∈ l ↔ ∃ v, st n = some v ∧ matchB cs v.2 = true)
section
variable {S : AS} {X : XI} {st : Nat → Option EvD} {K : Nat}
theorem new_live : CallW C1 8 [] S fun v T => v = .ptr (S.next + 2) 0 0 2 ∧ Live T (X0 S.next) (fun _ => none) 0 ∧ Sub S T ∧ T.next = S.next + 3 :=
 (up_id new8).mono fun v T ⟨h1, h2, h3, h4⟩ => ⟨h1, ⟨h2, fun m hm => (by cases hm), fun m hm => (by cases hm), fun n v => ⟨fun h => (by cases h), fun ⟨e, he, _⟩ => (by cases he)⟩, Nat.le_refl _⟩, h3, h4⟩
where
 up_id {f : FuncId} {vs : List AV} {S : AS} {Q : AV → AS → Prop} (h : CallW C1 f vs S Q) : CallW C1 f vs S Q := h
theorem add_live {n : Nat} {key : List Nat} {u : AV} {atts : List Att} (h : Live S X st K) (hu : AttsAt S u atts) (hux : ∀ id, bnd u = id + 1 → ¬ X.wf id) (hk : K + 100 ≤ 1048576) :
  CallW C1 9 [.ptr X.x 0 0 2, .int .u64 (n : Int), .agg [.str key, u]] S fun r T => ∃ X', Live T X' (addS st n (key, atts)) (K + 9) ∧ Step S T X X' ∧ X'.x = X.x ∧ r = .int .i64 (addE st n (key, atts)) := by
 refine (add9 h.ix h.ne hu hux (by have := h.k; omega)).mono ?_
 rintro r T ⟨X', g1, g2, g3, g4, g5, g6⟩
 have hk' := h.k
 have hsome : (st n).isSome = true ↔ ∃ e, e ∈ X.evs ∧ e.n = n := by
  cases hst : st n with
  | none =>
   refine ⟨fun h => (by cases h), fun ⟨e, he, hn⟩ => ?_⟩
   have := (h.reps n (e.key, e.atts)).2 ⟨e, he, hn, rfl⟩
   rw [hst] at this; cases this
  | some v =>
   obtain ⟨e, he, hn, _⟩ := (h.reps n v).1 hst
   exact ⟨fun _ => ⟨e, he, hn⟩, fun _ => rfl⟩
 rcases g6 with ⟨h1, rfl, h3⟩ | ⟨h1, h2, rfl, h3⟩ | ⟨h1, h2, rfl, u', h3⟩
 ·have he : addE st n (key, atts) = 30 := by unfold addE mayD; rw [if_pos h1]
  refine ⟨X', ⟨g1, g2, fun e he => h.may e (by rw [← h3]; exact he), fun m v => ?_, by omega⟩, g3, g4, by rw [he]⟩
  unfold addS
  rw [if_neg (by rw [he]; decide), h3]; exact h.reps m v
 ·have he : addE st n (key, atts) = 9 := by unfold addE mayD; rw [if_neg (by rw [h1]; decide), if_pos (hsome.2 h2)]
  refine ⟨X', ⟨g1, g2, fun e he => h.may e (by rw [← h3]; exact he), fun m v => ?_, by omega⟩, g3, g4, by rw [he]⟩
  unfold addS
  rw [if_neg (by rw [he]; decide), h3]; exact h.reps m v
 ·have hno : ¬ (st n).isSome = true := fun hh => by
   obtain ⟨e, he, hn⟩ := hsome.1 hh
   exact h2 e he hn
  have he : addE st n (key, atts) = 0 := by unfold addE mayD; rw [if_neg (by rw [h1]; decide), if_neg hno]
  refine ⟨X', ⟨g1, g2, fun e he => ?_, fun m v => ?_, by omega⟩, g3, g4, by rw [he]⟩
  ·rw [h3] at he
   rcases List.mem_append.1 he with he | he
   ·exact h.may e he
   ·simp at he; subst he; exact h1
  ·unfold addS
   rw [if_pos he, h3]
   unfold updE
   by_cases hm : m = n
   ·subst hm
    rw [if_pos rfl]
    constructor
    ·intro hv
     cases hv
     exact ⟨_, List.mem_append.2 (.inr (List.mem_singleton.2 rfl)), rfl, rfl⟩
    ·rintro ⟨e, he, hn, hv⟩
     rcases List.mem_append.1 he with he | he
     ·exact absurd hn (h2 e he)
     ·simp at he; subst he
      rw [← hv]
   ·rw [if_neg hm, h.reps m v]
    constructor
    ·rintro ⟨e, he, hn, hv⟩
     exact ⟨e, List.mem_append.2 (.inl he), hn, hv⟩
    ·rintro ⟨e, he, hn, hv⟩
     rcases List.mem_append.1 he with he | he
     ·exact ⟨e, he, hn, hv⟩
     ·simp at he; subst he
      exact absurd hn (fun e => hm e.symm)
theorem rem_live {n : Nat} (h : Live S X st K) (hk : K ≤ 1048576) :
  CallW C1 11 [.ptr X.x 0 0 2, .int .u64 (n : Int)] S fun r T => ∃ X', Live T X' (remS st n) K ∧ Step S T X X' ∧ X'.x = X.x ∧ r = .int .i64 (remE st n) := by
 have hk' := h.k
 refine (remove11 h.ix h.ne h.may (by omega)).mono ?_
 rintro r T ⟨X', g1, g2, g3, g4, g5, g6⟩
 rcases g6 with ⟨h1, rfl, h3⟩ | ⟨⟨e0, h1, h2⟩, rfl, h3⟩
 ·have hno : st n = none := by
   cases hst : st n with
   | none => rfl
   | some v =>
    obtain ⟨e, he, hn, _⟩ := (h.reps n v).1 hst
    exact absurd hn (h1 e he)
  refine ⟨X', ⟨g1, g2, fun e he => h.may e (by rw [← h3]; exact he), fun m v => ?_, by omega⟩, g3, g4, by unfold remE; rw [hno]; rfl⟩
  rw [h3, ← h.reps m v]
  unfold remS updE
  by_cases hm : m = n
  ·rw [if_pos hm, hm, hno]
  ·rw [if_neg hm]
 ·have hs : (st n).isSome = true := by
   have := (h.reps n (e0.key, e0.atts)).2 ⟨e0, h1, h2, rfl⟩
   rw [this]; rfl
  have hme := mem_delE (n := n) h.ix.evk
  refine ⟨X', ⟨g1, g2, fun e he => h.may e ?_, fun m v => ?_, by omega⟩, g3, g4, by unfold remE; rw [if_pos hs]⟩
  ·rw [h3] at he; exact ((hme e).1 he).1
  ·rw [h3]
   unfold remS updE
   by_cases hm : m = n
   ·rw [if_pos hm]
    refine ⟨fun h => (by cases h), fun ⟨e, he, hn, _⟩ => absurd (hn.trans hm) ((hme e).1 he).2⟩
   ·rw [if_neg hm, h.reps m v]
    constructor
    ·rintro ⟨e, he, hn, hv⟩
     exact ⟨e, (hme e).2 ⟨he, fun hh => hm (hn.symm.trans hh)⟩, hn, hv⟩
    ·rintro ⟨e, he, hn, hv⟩
     exact ⟨e, ((hme e).1 he).1, hn, hv⟩
theorem query_live {p : AV} {cs : List Con} (h : Live S X st K) (hp : PredAt S p cs) (hk : K ≤ 1048576) : CallW C1 12 [.ptr X.x 0 0 2, p] S fun r T => Sub S T ∧ ToldS T st cs r := by
 have hk' := h.k
 refine (query12 h.ix h.may hp (by omega)).mono ?_
 rintro r T ⟨h1, h2⟩
 refine ⟨h1, ?_⟩
 rcases h2 with ⟨h2, h3⟩ | ⟨h2, v, l, h3, h4, h5, h6, h7⟩
 ·exact .inl ⟨h2, h3⟩
 ·refine .inr ⟨h2, v, l, h3, h4, h5, by omega, fun n => ?_⟩
  rw [h7 n]
  constructor
  ·rintro ⟨e, he, hn, hm⟩
   exact ⟨(e.key, e.atts), (h.reps n _).2 ⟨e, he, hn, rfl⟩, hm⟩
  ·rintro ⟨w, hw, hm⟩
   obtain ⟨e, he, hn, rfl⟩ := (h.reps n w).1 hw
   exact ⟨e, he, hn, hm⟩
end
theorem rise_eq {l m : List Nat} (h1 : l.Pairwise (· < ·)) (h2 : m.Pairwise (· < ·)) (h : ∀ n, n ∈ l ↔ n ∈ m) : l = m := by
 have hp : l.Perm m := (List.perm_ext_iff_of_nodup (h1.imp fun h => by omega) (h2.imp fun h => by omega)).2 h
 exact List.Perm.eq_of_pairwise (le := (· < ·)) (fun a b _ _ h1 h2 => by omega) h1 h2 hp
theorem fn16 : C0.fns.get 16 = some Tryz.f16 := by kernel_rfl
theorem ok16 : codeOk C0 Tryz.f16.ntmps (Tryz.f16.body.getD .skip) = true := by kernel_rfl
def saH (S : AS) (u v : AV) (l m : List Nat) (k : Nat) (F' : Fr) (S' : AS) : Prop :=
 S' = S ∧ ∃ i : Nat, sl F' 0 = u ∧ sl F' 1 = v ∧ sl F' 5 = .int .i64 (i : Int) ∧ i ≤ l.length ∧ l.take i = m.take i ∧ k = l.length - i ∧ F'.n = 26
theorem nt16 : Tryz.f16.ntmps = 26 := by kernel_rfl
theorem numL_get {l : List Nat} {i : Nat} {x : Nat} (h : l[i]? = some x) : (numL l)[i]? = some (.int .u64 (x : Int)) := by unfold numL; rw [List.getElem?_map, h]; rfl
theorem same16 {S : AS} {u v : AV} {l m : List Nat} (hu : Sl S u 1 (numL l)) (hv : Sl S v 1 (numL m)) (hl : l.length ≤ 1048576) (hm : m.length ≤ 1048576) : CallW C0 16 [u, v] S fun r T => r = .bool (decide (l = m)) ∧ T = S := by
 have u1 := hu.sl
 have u2 := hu.len1
 have v1 := hv.sl
 have v2 := hv.len1
 rw [numL_len] at u2 v2
 have uo := hu.ok
 have vo := hv.ok
 refine enterW (pu0 _) (pr0 _ rfl) fn16 rfl ok16 (by simp) fun F hn hs => ?_
 rw [nt16] at hn
 have s0 := hs 0
 have s1 := hs 1
 clear hs
 simp only [List.getElem?_cons_zero, List.getElem?_cons_succ, Option.getD_some] at s0 s1
 by_cases hlm : l.length = m.length
 ·have hlm' : (l.length : Int) = (m.length : Int) := by omega
  simp [s0, s1, u1, u2, v1, v2, hlm']
  refine loopP_of (saH S u v l m) l.length ⟨rfl, 0, by simp [s0], by simp [s1], by simp, Nat.zero_le _, rfl, rfl, by simp [hn]⟩ ?_
  clear s0 s1 hn
  rintro k F' S' hn' ⟨rfl, i, t0, t1, t5, hi, ht, hk, hn⟩
  clear hn'
  by_cases hi' : i < l.length
  ·have hx : l[i]? = some l[i] := List.getElem?_eq_getElem hi'
   have hy : m[i]? = some m[i] := List.getElem?_eq_getElem (by omega)
   have lx := loadT_sl (cx := C0) (e := 30) hu (numL_get hx) ag30
   have ly := loadT_sl (cx := C0) (e := 30) hv (numL_get hy) ag30
   have hw := wrap_succ (show i < 9223372036854775807 by omega)
   simp [t0, t1, t5, u1, u2, hi', hn]
   refine still_ok (n := 26) (by kernel_rfl) (by simp [hn]) ?_
   by_cases hxy : l[i] = m[i]
   ·have hxy' : (l[i] : Int) = (m[i] : Int) := by omega
    simp [t0, t1, t5, u1, u2, v1, v2, hi', show i < m.length by omega, lx, ly, hxy', uo, vo]
    exact ⟨l.length - (i + 1), by omega, rfl, i + 1, by simp [t0], by simp [t1], by simp [hw, -Int.natCast_add], hi', take_more ht hi' (by omega) hxy, rfl, by simp [hn]⟩
   ·have hxy' : ¬ (l[i] : Int) = (m[i] : Int) := by omega
    have hne : l ≠ m := fun e => hxy (by subst e; rfl)
    simp [t0, t1, t5, u1, u2, v1, v2, hi', show i < m.length by omega, lx, ly, hxy', uo, vo, hne]
  ·have heq : l = m := by
    rw [List.take_of_length_le (by omega), List.take_of_length_le (by omega)] at ht
    exact ht
   subst heq
   simp [t0, t1, t5, u1, u2, hi']
 ·have hlm' : ¬ (l.length : Int) = (m.length : Int) := by omega
  have hne : l ≠ m := fun e => hlm (by rw [e])
  simp [s0, s1, u1, u2, v1, v2, hlm', hlm, hne]
end Go.Proofs.YtfempihpphbgmaaGreat.idx
namespace Go.Proofs.YtfempihpphbgmaaGreat.idx
open Go Go.Am Go.Proofs.YtfempihpphbgmaaGreat.mod
set_option linter.unusedVariables false
set_option linter.unusedSimpArgs false
noncomputable def flT (cx : Am.Cx) (t : TypeId) : Option (List TypeId) := match und cx t with | some (.struct fs) => some (fs.toList.map (·.type)) | _ => none
structure Facts (cx : Am.Cx) : Prop where
 un3 : und cx 3 = some (.int .i64)
 un2 : und cx 2 = some (.int .i64)
 un4 : und cx 4 = some .bool
 un9 : und cx 9 = some .string
 un30 : und cx 30 = some (.int .u64)
 un36 : und cx 36 = some (.int .u16)
 fl50 : flT cx 50 = some [3, 2, 9, 4]
 fl65 : flT cx 65 = some [9, 50]
 fl54 : flT cx 54 = some [9, 3, 50, 51]
 fl33 : flT cx 33 = some [9, 31]
 un25 : und cx 25 = some (.slice 54)
 un22 : und cx 22 = some (.slice 33)
 un23 : und cx 23 = some (.slice 36)
 un51 : und cx 51 = some (.slice 50)
 un31 : und cx 31 = some (.slice 65)
 sz50 : szOf cx 50 = some 4
 sz54 : szOf cx 54 = some 7
 sz65 : szOf cx 65 = some 5
 sz33 : szOf cx 33 = some 2
 sz36 : szOf cx 36 = some 1
 by65 : bytesOf cx 65 = some 56
 ag22 : aggOf cx 22 = some false
 ag23 : aggOf cx 23 = some false
 ag25 : aggOf cx 25 = some false
 ag33 : aggOf cx 33 = some true
 ag50 : aggOf cx 50 = some true
 ag9 : aggOf cx 9 = some false
theorem facts1 : Facts C1 := ⟨by kernel_rfl, by kernel_rfl, by kernel_rfl, by kernel_rfl, by kernel_rfl, by kernel_rfl, by kernel_rfl, by kernel_rfl, by kernel_rfl, by kernel_rfl, by kernel_rfl, by kernel_rfl, by kernel_rfl, by kernel_rfl, by kernel_rfl, by kernel_rfl, by kernel_rfl, by kernel_rfl, by kernel_rfl, by kernel_rfl, by kernel_rfl, by kernel_rfl, by kernel_rfl, by kernel_rfl, by kernel_rfl, by kernel_rfl, by kernel_rfl⟩
section
variable {cx : Am.Cx}
theorem rec_of {S : AS} {m : Nat} {t : TypeId} {l : List TypeId} {x : List AV} (h : flT cx t = some l) (hx : typedA cx S (m + 1) t x) : fieldsA (szOf cx) (typedA cx S m) l x := by
 unfold flT at h
 split at h
 ·rename_i fs hu
  cases h
  unfold typedA at hx
  simp only [hu] at hx
  exact hx
 ·cases h
theorem chunks {α : Type} {sz : Nat} {enc : α → List AV} {G : α → Prop} : ∀ (k : Nat) (cells : List AV), cells.length = k * sz → (∀ i, i < k → ∃ a, (cells.drop (i * sz)).take sz = enc a ∧ G a) → ∃ l : List α, l.length = k ∧ cells = l.flatMap enc ∧ ∀ a, a ∈ l → G a
 | 0, cells, h, _ => by
  rw [Nat.zero_mul] at h
  exact ⟨[], rfl, by rw [List.length_eq_zero_iff.1 h]; rfl, fun a ha => by cases ha⟩
 | k + 1, cells, h, hc => by
  obtain ⟨a, e, g⟩ := hc 0 (by omega)
  rw [Nat.succ_mul] at h
  obtain ⟨l, h1, h2, h3⟩ := chunks (sz := sz) (enc := enc) (G := G) k (cells.drop sz) (by rw [List.length_drop]; omega) (fun i hi => by
   obtain ⟨b, e, g⟩ := hc (i + 1) (by omega)
   refine ⟨b, ?_, g⟩
   rw [← e, List.drop_drop]
   congr 2
   rw [Nat.succ_mul, Nat.add_comm])
  refine ⟨a :: l, by rw [List.length_cons, h1], ?_, fun b hb => ?_⟩
  ·rw [List.flatMap_cons, ← h2, ← e, Nat.zero_mul, List.drop_zero, List.take_append_drop]
  ·rcases List.mem_cons.1 hb with rfl | hb
   ·exact g
   ·exact h3 b hb
theorem sl_of {S : AS} {m : Nat} {t e sz : Nat} {avs : List AV} (hu : und cx t = some (.slice e)) (hs : szOf cx e = some sz) (h : typedA cx S (m + 1) t avs) {α : Type} {enc : α → List AV} {G : α → Prop} (hz : ∀ a, (enc a).length = sz)
  (hel : ∀ x, typedA cx S m e x → ∃ a, x = enc a ∧ G a) : ∃ (u : AV) (l : List α), avs = [u] ∧ Sl S u sz (l.flatMap enc) ∧ (∀ a, a ∈ l → G a) ∧ l.length ≤ maxLen ∧ ∀ bs, bytesOf cx e = some bs → l.length * bs ≤ reachBytes := by
 unfold typedA at h
 simp only [hu] at h
 rcases h with rfl | ⟨id, len, cap, sz', rfl, h1, h2, h3, h4, hb, h5, h6⟩
 ·exact ⟨_, [], rfl, Sl.nil, fun a ha => (by cases ha), by simp, fun bs _ => by simp⟩
 ·rw [hs] at h1
  cases h1
  rcases h6 with rfl | ⟨cells, ty, g1, g2, g3⟩
  ·obtain rfl : len = 0 := by omega
   exact ⟨_, [], rfl, ⟨by simp [isSl, capB], rfl, by simp [sLen], h5⟩, fun a ha => (by cases ha), by simp, fun bs _ => by simp⟩
  ·obtain ⟨l, k1, k2, k3⟩ := chunks cap cells g2 fun i hi => hel _ (g3 i hi)
   subst k2
   refine ⟨_, l.take len, rfl, ⟨by simp [isSl, capB, h3], ?_, by rw [fm_len hz, List.length_take]; simp only [sLen]; congr 1; omega, h5⟩, fun a ha => k3 a (List.mem_of_mem_take ha), by rw [List.length_take]; omega, fun bs hbs => Nat.le_trans (Nat.mul_le_mul_right _ (by rw [List.length_take]; omega)) (hb bs hbs)⟩
   cases len with
   | zero => simp [rdS]
   | succ len =>
    simp only [rdS, rd_at, g1, rdO_row]
    rw [if_pos ⟨Nat.le_refl _, Nat.le_refl _, by rw [Nat.zero_add]; exact Nat.mul_le_mul_right _ h3⟩, List.drop_zero, fm_take hz]
theorem int_of {S : AS} {m : Nat} {t : TypeId} {avs : List AV} (hu : und cx t = some (.int .i64)) (h : typedA cx S (m + 1) t avs) : ∃ n : Int, avs = [.int .i64 n] := by
 unfold typedA at h
 simp only [hu] at h
 obtain ⟨n, e, _, _⟩ := h
 exact ⟨n, e⟩
theorem str_of {S : AS} {m : Nat} {t : TypeId} {avs : List AV} (hu : und cx t = some .string) (h : typedA cx S (m + 1) t avs) : ∃ s : List Nat, avs = [.str s] := by
 unfold typedA at h
 simp only [hu] at h
 obtain ⟨s, e, _⟩ := h
 exact ⟨s, e⟩
theorem bool_of {S : AS} {m : Nat} {t : TypeId} {avs : List AV} (hu : und cx t = some .bool) (h : typedA cx S (m + 1) t avs) : ∃ b : Bool, avs = [.bool b] := by
 unfold typedA at h
 simp only [hu] at h
 exact h
theorem val_of (K : Facts cx) {S : AS} {m : Nat} {x : List AV} (h : typedA cx S (m + 2) 50 x) : ∃ v : Val, x = encV v := by
 obtain ⟨a, _, rfl, _, h1, b, _, rfl, _, h2, c, _, rfl, _, h3, d, _, rfl, _, h4, rfl⟩ := rec_of K.fl50 h
 obtain ⟨k, rfl⟩ := int_of K.un3 h1
 obtain ⟨n, rfl⟩ := int_of K.un2 h2
 obtain ⟨s, rfl⟩ := str_of K.un9 h3
 obtain ⟨b, rfl⟩ := bool_of K.un4 h4
 exact ⟨⟨k, n, s, b⟩, rfl⟩
theorem att_of (K : Facts cx) {S : AS} {m : Nat} {x : List AV} (h : typedA cx S (m + 3) 65 x) : ∃ a : Att, x = encA a := by
 obtain ⟨a, _, rfl, _, h1, b, _, rfl, _, h2, rfl⟩ := rec_of K.fl65 h
 obtain ⟨s, rfl⟩ := str_of K.un9 h1
 obtain ⟨v, rfl⟩ := val_of K h2
 exact ⟨⟨s, v⟩, by simp [encA]⟩
theorem con_of (K : Facts cx) {S : AS} {m : Nat} {x : List AV} (h : typedA cx S (m + 4) 54 x) : ∃ c : Con, x = encC c ∧ ConOk S c := by
 obtain ⟨a, _, rfl, _, h1, b, _, rfl, _, h2, c, _, rfl, _, h3, d, _, rfl, _, h4, rfl⟩ := rec_of K.fl54 h
 obtain ⟨s, rfl⟩ := str_of K.un9 h1
 obtain ⟨o, rfl⟩ := int_of K.un3 h2
 obtain ⟨v, rfl⟩ := val_of K h3
 obtain ⟨u, l, rfl, g1, _, g2, _⟩ := sl_of (G := fun _ => True) K.un51 K.sz50 h4 encV_len (fun x hx => by obtain ⟨v, e⟩ := val_of K hx; exact ⟨v, e, trivial⟩)
 exact ⟨⟨s, o, v, u, l⟩, by simp [encC, encV], ⟨g1, Nat.le_trans g2 (by decide)⟩⟩
theorem pred_of (K : Facts cx) {S : AS} {m : Nat} {x : List AV} (h : typedA cx S (m + 5) 25 x) : ∃ (p : AV) (ks : List Con), x = [p] ∧ PredAt S p ks := by
 obtain ⟨u, l, rfl, g1, g2, g3, _⟩ := sl_of K.un25 K.sz54 h encC_len (fun x hx => con_of K hx)
 exact ⟨u, l, rfl, g1, g2, Nat.le_trans g3 (by decide)⟩
theorem ev_of (K : Facts cx) {S : AS} {m : Nat} {x : List AV} (h : typedA cx S (m + 5) 33 x) : ∃ (s : List Nat) (u : AV) (l : List Att), x = [.str s, u] ∧ AttsAt S u l := by
 obtain ⟨a, _, rfl, _, h1, b, _, rfl, _, h2, rfl⟩ := rec_of K.fl33 h
 obtain ⟨s, rfl⟩ := str_of K.un9 h1
 obtain ⟨u, l, rfl, g1, _, _, g2⟩ := sl_of (G := fun _ => True) K.un31 K.sz65 h2 encA_len (fun x hx => by obtain ⟨v, e⟩ := att_of K hx; exact ⟨v, e, trivial⟩)
 have hb := g2 56 K.by65
 refine ⟨s, u, l, rfl, g1, ?_⟩
 have : reachBytes = 140737488351232 := rfl
 omega
structure EvA where
 key : List Nat
 u : AV
 atts : List Att
def encEA (e : EvA) : List AV := [.str e.key, e.u]
theorem encEA_len (e : EvA) : (encEA e).length = 2 := rfl
theorem evs_of (K : Facts cx) {S : AS} {m : Nat} {x : List AV} (h : typedA cx S (m + 6) 22 x) : ∃ (u : AV) (l : List EvA), x = [u] ∧ Sl S u 2 (l.flatMap encEA) ∧ (∀ e, e ∈ l → AttsAt S e.u e.atts) ∧ l.length ≤ maxLen := by
 obtain ⟨u, l, rfl, g1, g2, g3, _⟩ := sl_of (enc := encEA) (G := fun e : EvA => AttsAt S e.u e.atts) K.un22 K.sz33 h encEA_len (fun x hx => by
  obtain ⟨s, u, l, rfl, g⟩ := ev_of K hx
  exact ⟨⟨s, u, l⟩, rfl, g⟩)
 exact ⟨u, l, rfl, g1, g2, g3⟩
theorem u16_of {S : AS} {m : Nat} {t : TypeId} {avs : List AV} (hu : und cx t = some (.int .u16)) (h : typedA cx S (m + 1) t avs) : ∃ n : Nat, avs = [.int .u16 n] ∧ n < 65536 := by
 unfold typedA at h
 simp only [hu] at h
 obtain ⟨n, e, k1, k2⟩ := h
 have hmax : IntKind.u16.max = 65535 := rfl
 have hmin : IntKind.u16.min = 0 := rfl
 rw [hmin] at k1; rw [hmax] at k2
 exact ⟨n.toNat, by rw [e, Int.toNat_of_nonneg k1], by omega⟩
def enc16 (n : Nat) : List AV := [.int .u16 (n : Int)]
theorem nums_of (K : Facts cx) {S : AS} {m : Nat} {x : List AV} (h : typedA cx S (m + 2) 23 x) : ∃ (u : AV) (l : List Nat), x = [u] ∧ Sl S u 1 (l.flatMap enc16) ∧ (∀ n, n ∈ l → n < 65536) ∧ l.length ≤ maxLen := by
 obtain ⟨u, l, rfl, g1, g2, g3, _⟩ := sl_of (enc := enc16) (G := fun n : Nat => n < 65536) K.un23 K.sz36 h (fun _ => rfl) (fun x hx => by
  obtain ⟨n, rfl, h⟩ := u16_of K.un36 hx
  exact ⟨n, rfl, h⟩)
 exact ⟨u, l, rfl, g1, g2, g3⟩
end
end Go.Proofs.YtfempihpphbgmaaGreat.idx
namespace Go.Proofs.YtfempihpphbgmaaGreat.ready
open Go Go.Am Go.ChangeShapes Go.WideShapes Go.ChangeAt Go.RowKit
set_option linter.unusedVariables false
set_option linter.unusedSimpArgs false
noncomputable abbrev P : Program := Tryz.prog
theorem own : ownKnob P.godebug = none := by kernel_rfl
theorem names : P.funcs.toList.all (fun fn => !(fn.name == "runtime.NumGoroutine")) = true := by kernel_rfl
theorem stood50 : P.stoodInHeld 50 = false ∧ P.eqGuardType P.depth 50 = false := ⟨by kernel_rfl, by kernel_rfl⟩
theorem stood65 : P.stoodInHeld 65 = false ∧ P.eqGuardType P.depth 65 = false := ⟨by kernel_rfl, by kernel_rfl⟩
theorem fields50 : (P.fieldsOf 50).toList.all (fun f => !(f.name == "_")) = true := by kernel_rfl
theorem fields65 : (P.fieldsOf 65).toList.all (fun f => !(f.name == "_")) = true := by kernel_rfl
theorem ext132 (a b : ByteArray) (w : World) : (callFunc 132 #[.string a, .string b]).run P w = .ok (.value (.int .i64 (Lib.compareBytes a.data.toList b.data.toList))) w := by
 have h : (callFunc 132 #[.string a, .string b]).run P w = ((do pure (.value (← Extern.BytealgCompare.compare #[.string a, .string b])) : Sem Next)).run P w := by kernel_rfl
 rw [h]
 simp only [Sem.run_bind, Lib.run_compareString, Result.andThen_ok, Sem.run_pure]
theorem size80 (w : World) : (Go.sizeOf 80).run P w = .ok 5 w := by kernel_rfl
theorem ext57 (args : Array Value) (w : World) : (callFunc 57 args).run P w = ((Extern.SlicesOverlaps.overlaps #[78, 78] #[4] args).run P w).andThen fun v w' => .ok (.value v) w' := by
 have h : (callFunc 57 args).run P w = ((do pure (.value (← Extern.SlicesOverlaps.overlaps #[78, 78] #[4] args)) : Sem Next)).run P w := by kernel_rfl
 rw [h]
 simp only [Sem.run_bind, Sem.run_pure]
theorem ready (A : Am.Ask) (h1 : ∀ t, t ∈ A.eqs → t = 50 ∨ t = 65) (h2 : ∀ x, x ∈ A.exts → x = (57, .apart) ∨ x = (132, .cmpstr)) : Am.Ready P A := by
 refine ⟨by kernel_rfl, fun t h => ?_, Am.enters_ok names, fun x h => ?_⟩
 ·rcases h1 t h with rfl | rfl
  ·refine ⟨stood50.1, stood50.2, fun f hf => ?_⟩
   have := List.all_eq_true.1 fields50 f hf
   simpa using this
  ·refine ⟨stood65.1, stood65.2, fun f hf => ?_⟩
   have := List.all_eq_true.1 fields65 f hf
   simpa using this
 ·rcases h2 x h with rfl | rfl
  ·exact ⟨78, 4, 80, 5, by kernel_rfl, size80, ext57⟩
  ·intro a b w
   rw [← cmp_bytes]
   exact ext132 a b w
theorem ready8 : Am.Ready P ins.A8 := ready _ (fun t h => by cases h) (fun x h => by
 simp only [ins.A8, List.mem_cons, List.not_mem_nil, or_false] at h
 exact .inl h)
noncomputable def N0 : Am.Ask := { eqs := [50, 65], exts := [(57, .apart), (132, .cmpstr)], prims := [(31, ins.q31), (34, ins.q34)], pures := [46] }
theorem readyN : Am.Ready P N0 := ready _ (fun t h => by
 simp only [N0, List.mem_cons, List.not_mem_nil, or_false] at h
 exact h) (fun x h => by
 simp only [N0, List.mem_cons, List.not_mem_nil, or_false] at h
 exact h)
theorem primsN (Λ : LB) : ∀ x, x ∈ N0.prims → PrimOk Λ Tryz.prog x.1 x.2 := by
 intro x hx
 simp only [N0, List.mem_cons, List.not_mem_nil, or_false] at hx
 rcases hx with rfl | rfl
 ·exact ins.prim31 ready8
 ·exact ins.prim34 ready8
theorem answer : true = Am.saysK Tryz.prog N0 1000000 14 true := by kernel_rfl
theorem awake (W : World) : Calls Tryz.prog 14 #[] W fun e w' => e = .returned (.bool true) ∧ Below W.heap.size W w' :=
 Am.call_fast0 readyN primsN rfl 1000000 14 true answer W
end Go.Proofs.YtfempihpphbgmaaGreat.ready
namespace Go.Proofs.YtfempihpphbgmaaGreat.ready
open Go Go.Am Go.ChangeShapes Go.WideShapes Go.ChangeAt Go.RowKit Go.Proofs.YtfempihpphbgmaaGreat.idx
set_option linter.unusedVariables false
set_option linter.unusedSimpArgs false
theorem readyA1 : Am.Ready P A1 := ready _ (fun t h => by
 simp only [A1, List.mem_cons, List.not_mem_nil, or_false] at h
 exact h) (fun x h => by
 simp only [A1, List.mem_cons, List.not_mem_nil, or_false] at h
 exact .inr h)
theorem readyAs : Am.Ready P As := ready _ (fun t h => by
 simp only [As, List.mem_cons, List.not_mem_nil, or_false] at h
 exact h) (fun x h => by
 simp only [As, List.mem_cons, List.not_mem_nil, or_false] at h
 exact .inr h)
theorem primsAs (Λ : LB) : ∀ x, x ∈ As.prims → PrimOk Λ Tryz.prog x.1 x.2 := by
 intro x hx
 simp only [As, List.mem_cons, List.not_mem_nil, or_false] at hx
 subst hx
 exact Am.boolQ_ok Tryz.func14 rfl awake
theorem primsA1 (Λ : LB) : ∀ x, x ∈ A1.prims → PrimOk Λ Tryz.prog x.1 x.2 := by
 intro x hx
 simp only [A1, List.mem_cons, List.not_mem_nil, or_false] at hx
 rcases hx with rfl | rfl | rfl | rfl
 ·exact Am.boolQ_ok Tryz.func14 rfl awake
 ·exact ins.prim31 ready8
 ·exact ins.prim34 ready8
 ·exact prim46 readyAs (primsAs Λ) (fun x hx => by cases hx)
end Go.Proofs.YtfempihpphbgmaaGreat.ready
namespace Go.Proofs.YtfempihpphbgmaaGreat.idx
open Go Go.Am Go.Proofs.YtfempihpphbgmaaGreat.mod
set_option linter.unusedVariables false
set_option linter.unusedSimpArgs false
theorem o_fn3 : C1.fns.get 3 = some Tryz.f3 := by kernel_rfl
theorem o_ok3 : codeOk C1 Tryz.f3.ntmps (Tryz.f3.body.getD .skip) = true := by kernel_rfl
@[simp] theorem o_st22 : slT C1 22 = some (33, 2, 40) := by kernel_rfl
@[simp] theorem o_cv3_30 : convT C1 3 30 = some .u64 := by kernel_rfl
@[simp] theorem o_st35 : slT C1 35 = some (4, 1, 1) := by kernel_rfl
@[simp] theorem o_st23 : slT C1 23 = some (36, 1, 2) := by kernel_rfl
@[simp] theorem o_ag36 : aggOf C1 36 = some false := by kernel_rfl
@[simp] theorem o_sz36 : szOf C1 36 = some 1 := by kernel_rfl
@[simp] theorem o_cv36_3 : convT C1 36 3 = some .i64 := by kernel_rfl
@[simp] theorem o_ag4 : aggOf C1 4 = some false := by kernel_rfl
@[simp] theorem o_sz4 : szOf C1 4 = some 1 := by kernel_rfl
@[simp] theorem o_un25 : und C1 25 = some (.slice 54) := by kernel_rfl
@[simp] theorem o_sz26 : szOf C1 26 = some 1 := by kernel_rfl
@[simp] theorem o_ze26 : zeroOf C1 26 = some (.nilp) := by kernel_rfl
@[simp] theorem o_ag26 : aggOf C1 26 = some false := by kernel_rfl
@[simp] theorem o_st51 : slT C1 51 = some (50, 4, 40) := by kernel_rfl
@[simp] theorem o_ag51 : aggOf C1 51 = some false := by kernel_rfl
@[simp] theorem o_mk52 : mapK C1 52 = some ((.int .u64), .int .i64 0) := by kernel_rfl
@[simp] theorem o_ag25 : aggOf C1 25 = some false := by kernel_rfl
@[simp] theorem o_mt52 : mapT C1 52 = true := by kernel_rfl
theorem unb4 : und C1 4 = some .bool := by kernel_rfl
theorem o_ze4 : zeroOf C1 4 = some (.bool false) := by kernel_rfl
def EvA.d (e : EvA) : EvD := (e.key, e.atts)
noncomputable def stOf (L : List EvA) (i : Nat) (n : Nat) : Option EvD := if n < i then (match L[n]? with | some e => if mayD e.d then some e.d else none | none => none) else none
theorem stOf_zero (L : List EvA) : stOf L 0 = fun _ => none := by funext n; simp [stOf]
theorem stOf_self (L : List EvA) (i : Nat) : stOf L i i = none := by simp [stOf]
theorem stOf_add {L : List EvA} {i : Nat} {e : EvA} (h : L[i]? = some e) : addE (stOf L i) i e.d = (if mayD e.d = true then 0 else 30) ∧ addS (stOf L i) i e.d = stOf L (i + 1) := by
 have he : addE (stOf L i) i e.d = (if mayD e.d = true then 0 else 30) := by
  unfold addE
  rw [stOf_self]
  cases mayD e.d <;> simp
 refine ⟨he, ?_⟩
 unfold addS
 rw [he]
 funext n
 cases hm : mayD e.d with
 | false =>
  simp
  unfold stOf
  by_cases hn : n = i
  ·subst hn; simp [h, hm]
  ·have : (n < i + 1) = (n < i) := by simp; omega
   simp [this]
 | true =>
  simp
  unfold updE stOf
  by_cases hn : n = i
  ·subst hn; simp [h, hm]
  ·have : (n < i + 1) = (n < i) := by simp; omega
   simp [hn, this]
theorem Step.out {S0 S T : AS} {X X' : XI} (h : Step S T X X') (hs : Sub S0 S) (hf : ∀ id, X.foot id → S0.next ≤ id) : Sub S0 T ∧ ∀ id, X'.foot id → S0.next ≤ id :=
 ⟨⟨fun id hid => by
  rw [h.keep.h id (Nat.lt_of_lt_of_le hid hs.next) (fun hw => by have := hf id (XI.wf_foot hw); omega)]
  exact hs.h id hid, Nat.le_trans hs.next h.keep.next⟩, fun id hid => (h.foot id hid).elim (hf id) fun h2 => Nat.le_trans hs.next h2⟩
structure Given (S : AS) (u : AV) (L : List EvA) : Prop where
 sl : Sl S u 2 (L.flatMap encEA)
 att : ∀ e, e ∈ L → AttsAt S e.u e.atts
 le : L.length ≤ 60
theorem Given.sub {S T : AS} {u : AV} {L : List EvA} (h : Given S u L) (hs : Sub S T) : Given T u L := ⟨h.sl.toSub hs, fun e he => (h.att e he).sub hs, h.le⟩
def ex1H (S0 : AS) (L : List EvA) (u g p : AV) (x : Nat) (k : Nat) (F' : Fr) (S' : AS) : Prop :=
 ∃ (i : Nat) (X : XI), Sub S0 S' ∧ Live S' X (stOf L i) (9 * i) ∧ X.x = x ∧ (∀ id, X.foot id → S0.next ≤ id) ∧ sl F' 0 = u ∧ sl F' 1 = g ∧ sl F' 2 = p ∧ sl F' 7 = .ptr x 0 0 2 ∧ sl F' 8 = .int .i64 (i : Int) ∧ i ≤ L.length ∧ k = L.length - i ∧ F'.n = 151
theorem ex1H_mk {S0 : AS} {L : List EvA} {u g p : AV} {x : Nat} {k : Nat} {F' : Fr} {S' : AS} (i : Nat) (X : XI) (h1 : Sub S0 S') (h2 : Live S' X (stOf L i) (9 * i)) (h3 : X.x = x) (h4 : ∀ id, X.foot id → S0.next ≤ id) (h5 : sl F' 0 = u) (h6 : sl F' 1 = g) (h7 : sl F' 2 = p) (h8 : sl F' 7 = .ptr x 0 0 2)
  (h9 : sl F' 8 = .int .i64 (i : Int)) (h10 : i ≤ L.length) (h11 : k = L.length - i) (h12 : F'.n = 151) : ex1H S0 L u g p x k F' S' := ⟨i, X, h1, h2, h3, h4, h5, h6, h7, h8, h9, h10, h11, h12⟩
noncomputable def stR (L : List EvA) (o : List Bool) (n : Nat) : Option EvD := match L[n]? with | some e => if mayD e.d && !((o[n]?).getD false) then some e.d else none | none => none
theorem stR_zero (L : List EvA) : stOf L L.length = stR L (List.replicate L.length false) := by
 funext n
 unfold stOf stR
 by_cases hn : n < L.length
 ·have h1 : (List.replicate L.length false)[n]? = some false := by rw [List.getElem?_replicate, if_pos hn]
  rw [if_pos hn, h1, List.getElem?_eq_getElem hn]
  simp
 ·rw [if_neg hn, List.getElem?_eq_none (by omega)]
theorem rem_no {st : Nat → Option EvD} {n : Nat} (h : st n = none) : remS st n = st ∧ remE st n = 6 := by
 refine ⟨?_, by unfold remE; rw [h]; rfl⟩
 funext m
 unfold remS updE
 by_cases hm : m = n
 ·rw [if_pos hm, hm, h]
 ·rw [if_neg hm]
theorem rem_yes {L : List EvA} {o : List Bool} {n : Nat} {e : EvA} (hL : L[n]? = some e) (hm : mayD e.d = true) (ho : o[n]? = some false) : remS (stR L o) n = stR L (o.set n true) ∧ remE (stR L o) n = 0 := by
 have h0 : stR L o n = some e.d := by unfold stR; rw [hL, ho]; simp [hm]
 refine ⟨?_, by unfold remE; rw [h0]; rfl⟩
 funext m
 unfold remS updE
 by_cases hmn : m = n
 ·subst hmn
  rw [if_pos rfl]
  unfold stR
  have hlt := (List.getElem?_eq_some_iff.1 ho).1
  rw [hL, List.getElem?_set_self hlt]
  simp
 ·rw [if_neg hmn]
  unfold stR
  rw [List.getElem?_set_ne (fun e => hmn e.symm)]
def ex2H (S0 : AS) (L : List EvA) (u g p w : AV) (x B : Nat) (gs : List Nat) (k : Nat) (F' : Fr) (S' : AS) : Prop :=
 ∃ (i : Nat) (X : XI) (o : List Bool), Sub S0 S' ∧ Live S' X (stR L o) 600 ∧ X.x = x ∧ (∀ id, X.foot id → S0.next ≤ id ∧ id ≠ B) ∧ o.length = L.length ∧ Gw S' w 1 4 (o.map AV.bool) ∧ bnd w = B + 1 ∧ S0.next ≤ B ∧ sl F' 0 = u ∧ sl F' 1 = g ∧ sl F' 2 = p ∧ sl F' 7 = .ptr x 0 0 2 ∧ sl F' 9 = w ∧ sl F' 10 = .int .i64 (i : Int) ∧ i ≤ gs.length ∧ k = gs.length - i ∧ F'.n = 151
theorem ex2H_mk {S0 : AS} {L : List EvA} {u g p w : AV} {x B : Nat} {gs : List Nat} {k : Nat} {F' : Fr} {S' : AS} (i : Nat) (X : XI) (o : List Bool) (h1 : Sub S0 S') (h2 : Live S' X (stR L o) 600) (h3 : X.x = x) (h4 : ∀ id, X.foot id → S0.next ≤ id ∧ id ≠ B) (ho : o.length = L.length) (hw : Gw S' w 1 4 (o.map AV.bool)) (hb : bnd w = B + 1) (hB : S0.next ≤ B)
  (h5 : sl F' 0 = u) (h6 : sl F' 1 = g) (h7 : sl F' 2 = p) (h8 : sl F' 7 = .ptr x 0 0 2) (h8' : sl F' 9 = w)
  (h9 : sl F' 10 = .int .i64 (i : Int)) (h10 : i ≤ gs.length) (h11 : k = gs.length - i) (h12 : F'.n = 151) : ex2H S0 L u g p w x B gs k F' S' := ⟨i, X, o, h1, h2, h3, h4, ho, hw, hb, hB, h5, h6, h7, h8, h8', h9, h10, h11, h12⟩
def ex2M (S0 : AS) (L : List EvA) (u p w : AV) (x B : Nat) (F' : Fr) (S' : AS) : Prop :=
 ∃ (X : XI) (o : List Bool), Sub S0 S' ∧ Live S' X (stR L o) 600 ∧ X.x = x ∧ o.length = L.length ∧ Sl S' w 1 (o.map AV.bool) ∧ sl F' 0 = u ∧ sl F' 2 = p ∧ sl F' 7 = .ptr x 0 0 2 ∧ sl F' 9 = w ∧ F'.n = 151
noncomputable def wantN (st : Nat → Option EvD) (cs : List Con) (i : Nat) : List Nat := (List.range i).filter fun n => match st n with | some d => matchB cs d.2 | none => false
theorem wantN_snoc (st : Nat → Option EvD) (cs : List Con) (i : Nat) : wantN st cs (i + 1) = wantN st cs i ++ (if (match st i with | some d => matchB cs d.2 | none => false) = true then [i] else []) := by
 unfold wantN
 rw [List.range_succ, List.filter_append]
 congr 1
 rw [List.filter_cons, List.filter_nil]
theorem wantN_rise (st : Nat → Option EvD) (cs : List Con) (i : Nat) : (wantN st cs i).Pairwise (· < ·) := List.pairwise_lt_range.sublist List.filter_sublist
theorem wantN_len (st : Nat → Option EvD) (cs : List Con) (i : Nat) : (wantN st cs i).length ≤ i := by
 unfold wantN
 refine Nat.le_trans (List.length_filter_le _ _) ?_
 rw [List.length_range]; exact Nat.le_refl _
theorem wantN_mem {st : Nat → Option EvD} {cs : List Con} {i n : Nat} (hs : ∀ n v, st n = some v → n < i) : n ∈ wantN st cs i ↔ ∃ v, st n = some v ∧ matchB cs v.2 = true := by
 unfold wantN
 rw [List.mem_filter, List.mem_range]
 constructor
 ·rintro ⟨h1, h2⟩
  cases hn : st n with
  | none => rw [hn] at h2; cases h2
  | some v => rw [hn] at h2; exact ⟨v, rfl, h2⟩
 ·rintro ⟨v, h1, h2⟩
  exact ⟨hs n v h1, by rw [h1]; exact h2⟩
theorem stR_lt {L : List EvA} {o : List Bool} {n : Nat} {v : EvD} (h : stR L o n = some v) : n < L.length := by
 unfold stR at h
 by_cases hn : n < L.length
 ·exact hn
 ·rw [List.getElem?_eq_none (by omega)] at h; cases h
def ex3H (S0 : AS) (L : List EvA) (u p w v : AV) (st : Nat → Option EvD) (cs : List Con) (k : Nat) (F' : Fr) (S' : AS) : Prop :=
 ∃ (i : Nat) (z : AV), Sub S0 S' ∧ Own S' S0.next z 1 30 (numL (wantN st cs i)) ∧ sl F' 0 = u ∧ sl F' 2 = p ∧ sl F' 9 = w ∧ sl F' 13 = v ∧ sl F' 15 = z ∧ sl F' 16 = .int .i64 (i : Int) ∧ i ≤ L.length ∧ k = L.length - i ∧ F'.n = 151
theorem ex3H_mk {S0 : AS} {L : List EvA} {u p w v : AV} {st : Nat → Option EvD} {cs : List Con} {k : Nat} {F' : Fr} {S' : AS} (i : Nat) (z : AV) (h1 : Sub S0 S') (h2 : Own S' S0.next z 1 30 (numL (wantN st cs i))) (h3 : sl F' 0 = u) (h4 : sl F' 2 = p) (h5 : sl F' 9 = w) (h6 : sl F' 13 = v) (h7 : sl F' 15 = z) (h8 : sl F' 16 = .int .i64 (i : Int)) (h9 : i ≤ L.length) (h10 : k = L.length - i) (h11 : F'.n = 151) :
  ex3H S0 L u p w v st cs k F' S' := ⟨i, z, h1, h2, h3, h4, h5, h6, h7, h8, h9, h10, h11⟩
theorem fits8 {n : Nat} (h : n ≤ 60) : fits (n + 1) 8 = true := by
 unfold fits
 simp only [nble, Bool.and_eq_true, decide_eq_true_eq]
 have : (n + 1).mul 8 = (n + 1) * 8 := rfl
 constructor <;> omega
theorem fits1 {n : Nat} (h : n ≤ 60) : fits n 1 = true := by
 unfold fits
 simp only [nble, Bool.and_eq_true, decide_eq_true_eq]
 have : n.mul 1 = n * 1 := rfl
 constructor <;> omega
theorem nt3 : Tryz.f3.ntmps = 151 := by kernel_rfl
theorem x0_foot {n id : Nat} (h : (X0 n).foot id) : n ≤ id := by
 rcases h with h | h | h | ⟨m, hm, _⟩ | ⟨m, hm, _⟩
 ·show n ≤ id; rw [h]; show n ≤ n + 2; omega
 ·rw [h]; exact Nat.le_refl _
 ·rw [h]; show n ≤ n + 1; omega
 ·cases hm
 ·cases hm
section
variable {S : AS}
set_option maxRecDepth 20000 in
set_option maxHeartbeats 4000000 in
theorem law3 {u0 g p : AV} {l : List EvA} {gs : List Nat} {cs : List Con} (hu : Sl S u0 2 (l.flatMap encEA)) (ha : ∀ e, e ∈ l → AttsAt S e.u e.atts) (hl : l.length ≤ maxLen) (hg : Sl S g 1 (gs.flatMap enc16)) (hgl : gs.length ≤ maxLen) (hgb : ∀ n, n ∈ gs → n < 65536) (hp : PredAt S p cs) :
  CallW C1 3 [u0, g, p] S fun r T => r = .bool true := by
 have us := hu.sl
 have ul := hu.len_flat encEA_len (by omega)
 have uo := okW_sl hu
 obtain ⟨N, hN⟩ : ∃ N, N = min l.length 60 := ⟨_, rfl⟩
 have hcut := hu.cut (l := 0) (k := N) (Nat.zero_le _) (by rw [ul]; omega)
 have hsl : ∀ F : Fr, sl F 20 = .int .i64 (N : Int) → sliceV C1 F 22 u0 none (some (.tmp 20)) none = some (subA u0 0 N) := fun F h1 =>
  sliceV_sub o_st22 us bound_none (by rw [bound_some, eval_tmp, h1, natOf_nat]) (Nat.zero_le _) (by rw [ul]; omega)
 rw [Nat.zero_mul, List.drop_zero, Nat.sub_zero, fm_take encEA_len] at hcut
 generalize subA u0 0 N = u at hcut hsl
 obtain ⟨L, hL⟩ : ∃ L, L = l.take N := ⟨_, rfl⟩
 rw [← hL] at hcut
 have hLl : L.length = N := by rw [hL, List.length_take]; omega
 have hG : Given S u L := ⟨hcut, fun e he => ha e (by rw [hL] at he; exact List.mem_of_mem_take he), by omega⟩
 have vs := hG.sl.sl
 have vl := hG.sl.len_flat encEA_len (by omega)
 have vo := okW_sl hG.sl
 have vc := hG.sl.cells
 obtain ⟨r0, T0, ⟨rfl, n1, n2, n3⟩, e0⟩ := (new_live (S := S)).ex
 have hmin : (if (60 : Int) < (l.length : Int) then (60 : Int) else (l.length : Int)) = (N : Int) := by
  rw [hN]; split <;> omega
 refine enterW (pu1 _) (pr1 _ rfl) o_fn3 rfl o_ok3 (by simp) fun F hn hs => ?_
 rw [nt3] at hn
 have s0 := hs 0
 have s1 := hs 1
 have s2 := hs 2
 clear hs
 simp only [List.getElem?_cons_zero, List.getElem?_cons_succ, Option.getD_some] at s0 s1 s2
 simp [s0, s1, s2, us, ul, uo, hmin, min_two, hsl, vc, ex1, e0]
 refine loopP_of (ex1H S L u g p (S.next + 2)) L.length (ex1H_mk 0 (X0 S.next) n2 (by rw [stOf_zero]; exact n1) rfl (fun id hf => x0_foot hf) (by simp) (by simp [s1]) (by simp [s2]) (by simp) (by simp) (Nat.zero_le _) rfl (by simp [hn])) ?_
 clear s0 s1 s2 hn e0
 rintro k F' S' hn' ⟨i, X, q1, q2, q3, q4, t0, t1, t2, t7, t8, hi, hk', hn⟩
 clear hn'
 by_cases hi' : i < L.length
 ·obtain ⟨e, hx⟩ : ∃ e, L[i]? = some e := ⟨_, List.getElem?_eq_getElem hi'⟩
  have hein : e ∈ L := List.mem_of_getElem? hx
  have hlo := loadT_el (cx := C1) (e := 33) (hG.sl.toSub q1) encEA_len (by omega) hx o_ag33 o_sz33
  have hat := (hG.att e hein).sub q1
  obtain ⟨a1, a2⟩ := stOf_add hx
  obtain ⟨r1, T1, ⟨X1, b1, b2, b3, rfl⟩, e1⟩ := (add_live (n := i) (key := e.key) q2 hat (fun id hb hw => by
   have := q4 id (XI.wf_foot hw)
   have := (hG.att e hein).sl.old; omega) (by omega)).ex
  rw [q3] at e1
  obtain ⟨o1, o2⟩ := b2.out q1 q4
  have hlo1 := loadT_el (cx := C1) (e := 33) (hG.sl.toSub o1) encEA_len (by omega) hx o_ag33 o_sz33
  obtain ⟨r2, T2, ⟨rfl, b4⟩, e2⟩ := (up1 (evMay10 (key := e.key) ((hG.att e hein).sub o1))).ex
  have w8 := wrap_succ (show i < 9223372036854775807 by omega)
  have w64 : IntKind.u64.wrap (i : Int) = (i : Int) := u64_nat (by omega)
  simp only [encEA] at hlo hlo1
  have a1' : addE (stOf L i) i (e.key, e.atts) = (if evMay e.key e.atts = true then 0 else 30) := a1
  have hfin : ∀ F2 : Fr, sl F2 0 = u → sl F2 1 = g → sl F2 2 = p → sl F2 7 = .ptr (S.next + 2) 0 0 2 → sl F2 8 = .int .i64 ((i + 1 : Nat) : Int) → F2.n = 151 → ∃ j, j < k ∧ ex1H S L u g p (S.next + 2) j F2 T2 := fun F2 p0 p1 p2 p7 p8 pn =>
   ⟨L.length - (i + 1), by omega, ex1H_mk (i + 1) X1 (o1.trans b4) (by have := (b1.sub b4).mono (show 9 * i + 9 ≤ 9 * (i + 1) by omega); rw [← a2]; exact this) (b3.trans q3) o2 p0 p1 p2 p7 p8 hi' rfl pn⟩
  simp [t0, t1, t2, t7, t8, vs, vl, hi', hn]
  refine draws [.p, .p, .p, .p, .p, .p, .r 0 0, .e [], .p, .p, .p, .p, .r 1 0, .e [], .p] (n := 151) (by kernel_rfl) (by simp [hn]) ?_
  simp [t0, t1, t2, t7, t8, vs, vl, vo, hi', hlo, hlo1, w64, ex1, e1, e2, bin_neq_bool unb4]
  refine ⟨by rcases hat.sl.cases with h | ⟨_, _, _, _, _, _, h⟩ <;> simp [h], ?_⟩
  rw [a1']
  cases hmb : evMay e.key e.atts with
  | true =>
   simp
   exact hfin _ (by simp [t0]) (by simp [t1]) (by simp [t2]) (by simp [t7]) (by simp [w8, -Int.natCast_add]) (by simp [hn])
  | false =>
   simp
   exact hfin _ (by simp [t0]) (by simp [t1]) (by simp [t2]) (by simp [t7]) (by simp [w8, -Int.natCast_add]) (by simp [hn])
 ·obtain rfl : i = L.length := by omega
  rw [stR_zero] at q2
  have hmk := fun (F : Fr) (id : Nat) (h : natOf (eval F (.tmp 45)) = some L.length) => freshV_make (cx := C1) (F := F) (t := 35) (id := id) (l := .tmp 45) (c := .tmp 45) o_st35 rfl o_ze4 cellsOf_bool h h (fits1 hG.le)
  obtain ⟨M, hM⟩ : ∃ M : AS, M = ⟨S'.h.set S'.next (.row (List.replicate L.length (.bool false)) 0 0 false 4), S'.next + 1⟩ := ⟨_, rfl⟩
  have hSM : Sub S' M := by rw [hM]; exact sub1
  have hMn : M.next = S'.next + 1 := by rw [hM]
  have gM : M.h.get S'.next = some (.row (List.replicate L.length (.bool false)) 0 0 false 4) := by rw [hM]; exact get_set_same _ _ _
  have hgw : Gw M (.slice S'.next 0 0 L.length L.length 1 (some L.length)) 1 4 ((List.replicate L.length false).map AV.bool) := by
   have hrep : (List.replicate L.length false).map AV.bool = List.replicate L.length (AV.bool false) := by simp
   rw [hrep]
   refine ⟨rd_row gM (Nat.le_refl _) (by simp) (by omega) (by simp [capB]), .inr ⟨S'.next, 0, 0, L.length, L.length, some L.length, rfl, by simp [capN], by omega, _, 0, 0, gM, Nat.le_refl _, rfl⟩⟩
  simp [-wpP_block, t0, t1, t2, t7, t8, vs, vl, hmk, ← hM]
  have hwb : bnd (AV.slice S'.next 0 0 L.length L.length 1 (some L.length)) = S'.next + 1 := rfl
  generalize (AV.slice S'.next 0 0 L.length L.length 1 (some L.length)) = w at hgw hwb
  have hg16 : gs.flatMap enc16 = gs.map fun n : Nat => AV.int .u16 (n : Int) := by
   induction gs with
   | nil => rfl
   | cons a gs ih =>
    have ih' : gs.flatMap enc16 = gs.map fun n : Nat => AV.int .u16 (n : Int) := by
     clear hg hgl ih hgb
     induction gs with
     | nil => rfl
     | cons b gs ih => rw [List.flatMap_cons, List.map_cons, ih]; rfl
    rw [List.flatMap_cons, List.map_cons, ih']; rfl
  rw [hg16] at hg
  have gsl := hg.sl
  have gln := hg.len1
  rw [List.length_map] at gln
  have gok := okW_sl hg
  refine cut_of (ex2M S L u p w (S.next + 2) S'.next) ?_ ?_
  rw [wpP_block, wpP_loop]
  refine loopP_of (ex2H S L u g p w (S.next + 2) S'.next gs) gs.length (ex2H_mk 0 X (List.replicate L.length false) (q1.trans hSM) ((q2.sub hSM).mono (by have := hG.le; omega)) q3 (fun id hf => ⟨q4 id hf, fun e => by have := q2.foot hf; omega⟩) (by simp) hgw hwb q1.next (by simp [t0]) (by simp [t1]) (by simp [t2]) (by simp [t7]) (by simp) (by simp) (Nat.zero_le _) rfl (by simp [hn])) ?_
  have hBn : S.next ≤ S'.next := q1.next
  generalize S'.next = B at hwb hBn
  clear t0 t1 t2 t7 t8 hn q1 q2 q3 q4 hM hMn gM hSM hgw hmk
  rintro k2 F2 V hn' ⟨i, X, o, q1, q2, q3, q4, ho, hw, _, _, t0, t1, t2, t7, t9, t10, hi2, hk2, hn⟩
  clear hn'
  have wsl := hw.1.sl
  have wln := hw.1.len1
  rw [List.length_map] at wln
  have wok := okW_sl hw.1
  by_cases hi2' : i < gs.length ∧ i < 100
  ·obtain ⟨hig, hi100⟩ := hi2'
   have hi100' : (i : Int) < 100 := by omega
   obtain ⟨gk, hx⟩ : ∃ gk, gs[i]? = some gk := ⟨_, List.getElem?_eq_getElem hig⟩
   have hlg := loadT_sl (cx := C1) (e := 36) (hg.toSub q1) (by rw [List.getElem?_map, hx]; rfl) o_ag36
   have w10 := wrap_succ (show i < 9223372036854775807 by omega)
   have hgk : gk < 65536 := hgb gk (List.mem_of_getElem? hx)
   have wgk : IntKind.i64.wrap (gk : Int) = (gk : Int) := wrap_nat (by omega)
   have wgk2 : IntKind.u64.wrap (gk : Int) = (gk : Int) := u64_nat (by omega)
   have hfin : ∀ (F3 : Fr) {T' : AS} (X' : XI) (o' : List Bool), Live T' X' (stR L o') 600 → X'.x = X.x → (∀ id, X'.foot id → S.next ≤ id ∧ id ≠ B) → o'.length = L.length → Gw T' w 1 4 (o'.map AV.bool) → Sub S T' → sl F3 0 = u → sl F3 1 = g → sl F3 2 = p → sl F3 7 = .ptr (S.next + 2) 0 0 2 → sl F3 9 = w → sl F3 10 = .int .i64 ((i + 1 : Nat) : Int) → F3.n = 151 →
     ∃ j, j < k2 ∧ ex2H S L u g p w (S.next + 2) B gs j F3 T' := fun F3 T' X' o' g2 g3 g4 g5 g6 g7 p0 p1 p2 p7 p9 p10 pn =>
    ⟨gs.length - (i + 1), by omega, ex2H_mk (i + 1) X' o' g7 g2 (g3.trans q3) g4 g5 g6 hwb hBn p0 p1 p2 p7 p9 p10 hig rfl pn⟩
   have hrem : ∀ (T : AS), Sub V T → ∃ T2 X', (∀ Q, CallW C1 11 [.ptr (S.next + 2) 0 0 2, .int .u64 (gk : Int)] T Q = Q (.int .i64 (remE (stR L o) gk)) T2) ∧ Live T2 X' (remS (stR L o) gk) 600 ∧ X'.x = X.x ∧ (∀ id, X'.foot id → S.next ≤ id ∧ id ≠ B) ∧ Gw T2 w 1 4 (o.map AV.bool) ∧ Sub S T2 ∧ B < T2.next := fun T hT => by
    obtain ⟨r, T2, ⟨X', b1, b2, b3, rfl⟩, e⟩ := (rem_live (n := gk) (q2.sub hT) (by omega)).ex
    rw [q3] at e
    have hBV : B < V.next := by have := hw.1.old; omega
    obtain ⟨o1, o2⟩ := b2.out (q1.trans hT) (fun id hf => (q4 id hf).1)
    have hTn := hT.next
    refine ⟨T2, X', e, b1, b3, fun id hf => ⟨o2 id hf, fun e => ?_⟩, ?_, o1, by have := b2.keep.next; omega⟩
    ·rcases b2.foot id hf with h1 | h1
     ·exact (q4 id h1).2 e
     ·omega
    ·refine hw.agree (fun id hb => ?_) (Nat.le_trans hTn b2.keep.next)
     have hid : id = B := by omega
     rw [b2.keep.h id (by omega) (fun hwf => (q4 id (XI.wf_foot hwf)).2 hid)]
     exact hT.h id (by omega)
   by_cases hkN : gk < L.length
   ·obtain ⟨e, hxe⟩ : ∃ e, L[gk]? = some e := ⟨_, List.getElem?_eq_getElem hkN⟩
    have hein : e ∈ L := List.mem_of_getElem? hxe
    have hlo := loadT_el (cx := C1) (e := 33) (hG.sl.toSub q1) encEA_len (by omega) hxe o_ag33 o_sz33
    obtain ⟨r2, T1, ⟨rfl, b4⟩, e2⟩ := (up1 (evMay10 (key := e.key) ((hG.att e hein).sub q1))).ex
    obtain ⟨T2, X', e3, b1, b3, b5, b6, b7, b8⟩ := hrem T1 b4
    have hko : gk < o.length := by omega
    obtain ⟨ob, hob⟩ : ∃ ob, o[gk]? = some ob := ⟨_, List.getElem?_eq_getElem hko⟩
    have hwT : Gw T1 w 1 4 (o.map AV.bool) := hw.agree (fun id hb => b4.h id (by have := hw.1.old; omega)) b4.next
    have hlw := loadT_sl (cx := C1) (e := 4) hwT.1 (by rw [List.getElem?_map, hob]; rfl) o_ag4
    simp only [encEA] at hlo
    cases hmb : evMay e.key e.atts with
    | false =>
     have hst : stR L o gk = none := by unfold stR; rw [hxe]; simp [mayD, EvA.d, hmb]
     obtain ⟨z1, z2⟩ := rem_no hst
     rw [hmb] at e2
     rw [z1] at b1
     rw [z2] at e3
     simp [t0, t1, t2, t7, t9, t10, vs, vl, gsl, gln, hig, hi100', hlg, wgk, wgk2, hkN, hlo, ex1, e2, e3, bin_neq_bool unb4]
     exact hfin _ X' o b1 b3 b5 ho b6 b7 (by simp [t0]) (by simp [t1]) (by simp [t2]) (by simp [t7]) (by simp [t9]) (by simp [w10, -Int.natCast_add]) (by simp [hn])
    | true =>
     rw [hmb] at e2
     cases ob with
     | true =>
      have hst : stR L o gk = none := by unfold stR; rw [hxe, hob]; simp
      obtain ⟨z1, z2⟩ := rem_no hst
      rw [z1] at b1
      rw [z2] at e3
      simp [t0, t1, t2, t7, t9, t10, vs, vl, gsl, gln, hig, hi100', hlg, wgk, wgk2, hkN, hlo, ex1, e2, e3, bin_neq_bool unb4, wsl, wln, ho, hlw]
      exact hfin _ X' o b1 b3 b5 ho b6 b7 (by simp [t0]) (by simp [t1]) (by simp [t2]) (by simp [t7]) (by simp [t9]) (by simp [w10, -Int.natCast_add]) (by simp [hn])
     | false =>
      obtain ⟨z1, z2⟩ := rem_yes hxe (by rw [show mayD e.d = evMay e.key e.atts from rfl, hmb]) hob
      rw [z1] at b1
      rw [z2] at e3
      obtain ⟨T3, c1, c2, c3, c4⟩ := b6.putc (i := gk) (o := 0) (x := .bool true) (by rw [wln]; exact hko) (by omega)
      rw [pAt_add] at c1
      rw [Nat.mul_one, Nat.add_zero, ← List.map_set] at c2
      have hl3 : Live T3 X' (stR L (o.set gk true)) 600 := b1.keep (A := fun id => id = B) ⟨fun id h1 h2 => c3 id (by omega), by rw [c4]; exact Nat.le_refl _⟩ (fun id hf => (b5 id hf).2)
      have hs3 : Sub S T3 := ⟨fun id hid => (c3 id (by omega)).trans (b7.h id hid), by rw [c4]; exact b7.next⟩
      simp [t0, t1, t2, t7, t9, t10, vs, vl, gsl, gln, hig, hi100', hlg, wgk, wgk2, hkN, hlo, ex1, e2, e3, bin_neq_bool unb4, wsl, wln, ho, hlw, c1]
      exact hfin _ X' (o.set gk true) hl3 b3 b5 (by rw [List.length_set]; exact ho) c2 hs3 (by simp [t0]) (by simp [t1]) (by simp [t2]) (by simp [t7]) (by simp [t9]) (by simp [w10, -Int.natCast_add]) (by simp [hn])
   ·have hst : stR L o gk = none := by unfold stR; rw [List.getElem?_eq_none (by omega)]
    obtain ⟨z1, z2⟩ := rem_no hst
    obtain ⟨T2, X', e3, b1, b3, b5, b6, b7, b8⟩ := hrem V (Sub.refl V)
    rw [z1] at b1
    rw [z2] at e3
    have hkN' : ¬ (gk : Int) < (L.length : Int) := by omega
    simp [t0, t1, t2, t7, t9, t10, vs, vl, gsl, gln, hig, hi100', hlg, wgk, wgk2, hkN, ex1, e3, bin_neq_bool unb4]
    exact hfin _ X' o b1 b3 b5 ho b6 b7 (by simp [t0]) (by simp [t1]) (by simp [t2]) (by simp [t7]) (by simp [t9]) (by simp [w10, -Int.natCast_add]) (by simp [hn])
  ·by_cases hig : i < gs.length
   ·have hi100 : ¬ (i : Int) < 100 := by omega
    simp [t0, t1, t2, t7, t9, t10, gsl, gln, hig, hi100]
    exact ⟨X, o, q1, q2, q3, ho, hw.1, by simp [t0], by simp [t2], by simp [t7], by simp [t9], by simp [hn]⟩
   ·simp [t0, t1, t2, t7, t9, t10, gsl, gln, hig]
    exact ⟨X, o, q1, q2, q3, ho, hw.1, by simp [t0], by simp [t2], by simp [t7], by simp [t9], by simp [hn]⟩
  rintro F3 V ⟨X, o, q1, q2, q3, ho, hw, t0, t2, t7, t9, hn⟩
  obtain ⟨r, T1, ⟨hT1, ht⟩, e4⟩ := (query_live q2 (hp.sub q1) (by omega)).ex
  rw [q3] at e4
  have hS1 := q1.trans hT1
  obtain ⟨r5, T2, ⟨rfl, hT2⟩, e5⟩ := (up1 (mayPred (hp.sub hS1))).ex
  have hS2 := hS1.trans hT2
  have po := okW_sl hp.sl
  rcases ht with ⟨hm, rfl⟩ | ⟨hm, v, l', rfl, g1, g2, g3, g4⟩
  ·rw [hm] at e5
   simp [kcode_app, t0, t2, t7, t9, e4, e5, ex1, bin_neq_bool unb4, awake14]
  ·rw [hm] at e5
   have g1' := g1.toSub hT2
   have vo' := okW_sl g1
   have vnp := g1.np
   have hos := hw.sl
   have hol := hw.len1
   rw [List.length_map, ho] at hol
   simp [kcode_app, t0, t2, t7, t9, e4, e5, ex1, bin_neq_bool unb4, awake14]
   refine loopP_of (ex3H T2 L u p w v (stR L o) cs) L.length (ex3H_mk 0 .nils (Sub.refl T2) Own.nil (by simp [t0]) (by simp [t2]) (by simp [t9]) (by simp) (by simp) (by simp) (Nat.zero_le _) rfl (by simp [hn])) ?_
   clear t0 t2 t7 t9 hn e4 e5
   rintro k F4 W hn' ⟨i, z, p1, p2, t0, t2, t9, t13, t15, t16, hi, hk, hn⟩
   clear hn'
   have hSW := hS2.trans p1
   have zsl := p2.sl
   by_cases hi' : i < L.length
   ·obtain ⟨e, hx⟩ : ∃ e, L[i]? = some e := ⟨_, List.getElem?_eq_getElem hi'⟩
    have hein : e ∈ L := List.mem_of_getElem? hx
    have hlo := loadT_el (cx := C1) (e := 33) (hG.sl.toSub hSW) encEA_len (by omega) hx o_ag33 o_sz33
    obtain ⟨r2, U1, ⟨rfl, b4⟩, e2⟩ := (up1 (evMay10 (key := e.key) ((hG.att e hein).sub hSW))).ex
    have hSU := hSW.trans b4
    have hlo1 := loadT_el (cx := C1) (e := 33) (hG.sl.toSub hSU) encEA_len (by omega) hx o_ag33 o_sz33
    obtain ⟨r3, U2, ⟨rfl, b5⟩, e3⟩ := (up1 (matches_ (key := e.key) (hp.sub hSU) ((hG.att e hein).sub hSU))).ex
    obtain ⟨ob, hob⟩ : ∃ ob, o[i]? = some ob := ⟨_, List.getElem?_eq_getElem (by omega)⟩
    have hlw := loadT_sl (cx := C1) (e := 4) (hw.toSub (((hT1.trans hT2).trans p1).trans b4)) (by rw [List.getElem?_map, hob]; rfl) o_ag4
    have w16 := wrap_succ (show i < 9223372036854775807 by omega)
    have w64 : IntKind.u64.wrap (i : Int) = (i : Int) := u64_nat (by omega)
    have hsn := wantN_snoc (stR L o) cs i
    simp only [encEA] at hlo hlo1
    have hno : ∀ {U : AS}, Sub W U → (match stR L o i with | some d => matchB cs d.2 | none => false) = false → ∀ F5 : Fr, sl F5 0 = u → sl F5 2 = p → sl F5 9 = w → sl F5 13 = v → sl F5 15 = z → sl F5 16 = .int .i64 ((i + 1 : Nat) : Int) → F5.n = 151 → ∃ j, j < k ∧ ex3H T2 L u p w v (stR L o) cs j F5 U := fun {U} hU hc F5 p0 p2' p9 p13 p15 p16 pn =>
     ⟨L.length - (i + 1), by omega, ex3H_mk (i + 1) z (p1.trans hU) (by rw [hsn, hc]; simpa using p2.sub hU) p0 p2' p9 p13 p15 p16 hi' rfl pn⟩
    cases hmb : evMay e.key e.atts with
    | false =>
     rw [hmb] at e2
     have hc : (match stR L o i with | some d => matchB cs d.2 | none => false) = false := by
      have : stR L o i = none := by unfold stR; rw [hx]; simp [mayD, EvA.d, hmb]
      rw [this]
     simp [t0, t2, t9, t13, t15, t16, vs, vl, hi', hlo, ex1, e2]
     exact hno b4 hc _ (by simp [t0]) (by simp [t2]) (by simp [t9]) (by simp [t13]) (by simp [t15]) (by simp [w16, -Int.natCast_add]) (by simp [hn])
    | true =>
     rw [hmb] at e2
     cases ob with
     | true =>
      have hc : (match stR L o i with | some d => matchB cs d.2 | none => false) = false := by
       have : stR L o i = none := by unfold stR; rw [hx, hob]; simp
       rw [this]
      simp [t0, t2, t9, t13, t15, t16, vs, vl, hi', hlo, ex1, e2, hos, hol, hlw]
      exact hno b4 hc _ (by simp [t0]) (by simp [t2]) (by simp [t9]) (by simp [t13]) (by simp [t15]) (by simp [w16, -Int.natCast_add]) (by simp [hn])
     | false =>
      have hst : stR L o i = some e.d := by unfold stR; rw [hx, hob]; simp [mayD, EvA.d, hmb]
      cases hmc : matchB cs e.atts with
      | false =>
       rw [hmc] at e3
       simp [t0, t2, t9, t13, t15, t16, vs, vl, hi', hlo, hlo1, ex1, e2, e3, hos, hol, hlw]
       exact hno (b4.trans b5) (by rw [hst]; exact hmc) _ (by simp [t0]) (by simp [t2]) (by simp [t9]) (by simp [t13]) (by simp [t15]) (by simp [w16, -Int.natCast_add]) (by simp [hn])
      | true =>
       rw [hmc] at e3
       have hWU := b4.trans b5
       have hown := p2.sub hWU
       obtain ⟨z', U3, a1, a2, a3, a4, _⟩ := append_one (cx := C1) (t := 38) (u := 38) (ts := []) (p := (30, 1, 8)) (y := .int .u64 (i : Int)) o_st38 rfl o_un38 rfl hown (Nat.le_trans p1.next hWU.next) (by
        rw [numL_len]; exact fits8 (by have := wantN_len (stR L o) cs i; have := hG.le; omega))
       have hTU : Sub T2 U3 := ⟨fun id hid => (a3.h id hid).trans ((p1.trans hWU).h id hid), Nat.le_trans (p1.trans hWU).next a3.next⟩
       have hnew : numL (wantN (stR L o) cs (i + 1)) = numL (wantN (stR L o) cs i) ++ [.int .u64 (i : Int)] := by
        rw [hsn, hst]
        simp [EvA.d, hmc, numL]
       simp [t0, t2, t9, t13, t15, t16, vs, vl, hi', hlo, hlo1, ex1, e2, e3, hos, hol, hlw, w64, hown.sl.cells, a1]
       exact ⟨L.length - (i + 1), by omega, ex3H_mk (i + 1) z' hTU (by rw [hnew]; exact a2) (by simp [t0]) (by simp [t2]) (by simp [t9]) (by simp [t13]) (by simp) (by simp [w16, -Int.natCast_add]) hi' rfl (by simp [hn])⟩
   ·obtain rfl : i = L.length := by omega
    have heq : l' = wantN (stR L o) cs L.length := rise_eq g2 (wantN_rise _ _ _) fun n => by rw [g4 n, wantN_mem fun n v h => stR_lt h]
    obtain ⟨r6, U, ⟨rfl, rfl⟩, e6⟩ := (up1 (same16 (g1'.toSub p1) p2.sl g3 (by have := wantN_len (stR L o) cs L.length; have := hG.le; omega))).ex
    rw [decide_eq_true heq] at e6
    simp [t0, t2, t9, t13, t15, t16, vs, vl, ex1, e6, awake14]
end
theorem args3 {cx : Am.Cx} (K : Facts cx) {S : AS} {m : Nat} {vals : List AV} (h : typedArgs cx S (m + 9) [22, 23, 25] vals) : ∃ (u : AV) (l : List EvA) (g : AV) (gs : List Nat) (p : AV) (cs : List Con), vals = [u, g, p] ∧
  Sl S u 2 (l.flatMap encEA) ∧ (∀ e, e ∈ l → AttsAt S e.u e.atts) ∧ l.length ≤ maxLen ∧ Sl S g 1 (gs.flatMap enc16) ∧ (∀ n, n ∈ gs → n < 65536) ∧ gs.length ≤ maxLen ∧ PredAt S p cs := by
 obtain ⟨a1, r1, rfl, h1, a2, r2, rfl, h2, a3, r3, rfl, h3, rfl⟩ := h
 obtain ⟨u, l, rfl, g1, g2, g3⟩ := evs_of (m := m + 3) K h1
 obtain ⟨g, gs, rfl, g4, g5, g6⟩ := nums_of (m := m + 7) K h2
 obtain ⟨p, cs, rfl, g7⟩ := pred_of (m := m + 4) K h3
 exact ⟨u, l, g, gs, p, cs, by simp only [argA, K.ag22, K.ag23, K.ag25, soleA], g1, g2, g3, g4, g5, g6, g7⟩
end Go.Proofs.YtfempihpphbgmaaGreat.idx
