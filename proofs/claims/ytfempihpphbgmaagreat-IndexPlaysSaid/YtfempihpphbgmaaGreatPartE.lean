/-
  An index as what it stands for: events by numbers.
-/
import Derived.Test.YtfempihpphbgmaaGreatPartD
import Derived.Test.YtfempihpphbgmaaGreatAmArgs
import Derived.Test.YtfempihpphbgmaaGreatPartC
import Derived.Test.YtfempihpphbgmaaGreatAmHanded
import Derived.Test.YtfempihpphbgmaaGreatAmTop
import Derived.Test.YtfempihpphbgmaaGreatAmPrim
import Derived.LaidLaws
import Derived.Lib.LaidTab
import Derived.WalkKit
import Derived.ProofKit
noncomputable section
namespace Go.Proofs.YtfempihpphbgmaaGreat.idx
open Go Go.Am Go.Proofs.YtfempihpphbgmaaGreat.mod
set_option linter.unusedVariables false
set_option linter.unusedSimpArgs false
abbrev nf := List Nat × List dD
def Ah (v : nf) : Bool := ec v.1 v.2
structure Live (S : AS) (X : XI) (st : Nat → Option nf) (K : Nat) : Prop where
 ix : bL S X (na X)
 ne : eP X
 may : ∀ e, e ∈ X.eb → ec e.key e.ar = true
 oV : ∀ n v, st n = some v ↔ ∃ e, e ∈ X.eb ∧ e.n = n ∧ (e.key, e.ar) = v
 k : X.k ≤ K
theorem Live.sub {S T : AS} {X : XI} {st : Nat → Option nf} {K : Nat} (h : Live S X st K) (hs : Sub S T) : Live T X st K := { h with ix := h.ix.sub hs }
theorem Live.mono {S : AS} {X : XI} {st : Nat → Option nf} {K K' : Nat} (h : Live S X st K) (hk : K ≤ K') : Live S X st K' := { h with k := Nat.le_trans h.k hk }
theorem Live.bm {S T : AS} {A : Nat → Prop} {X : XI} {st : Nat → Option nf} {K : Nat} (h : Live S X st K) (hs : eS A S T) (ha : ∀ id, X.fm id → ¬ A id) : Live T X st K := { h with ix := h.ix.bm hs ha }
theorem Live.fm {S : AS} {X : XI} {st : Nat → Option nf} {K : Nat} (h : Live S X st K) {id : Nat} (hf : X.fm id) : id < S.next := h.ix.kA hf
def uT (st : Nat → Option nf) (n : Nat) (v : Option nf) (m : Nat) : Option nf := if m = n then v else st m
def ql (st : Nat → Option nf) (n : Nat) (v : nf) : Int := if Ah v = false then 30 else if (st n).isSome then 9 else 0
def tf (st : Nat → Option nf) (n : Nat) (v : nf) : Nat → Option nf := if ql st n v = 0 then uT st n (some v) else st
def remE (st : Nat → Option nf) (n : Nat) : Int := if (st n).isSome then 0 else 6
def remS (st : Nat → Option nf) (n : Nat) : Nat → Option nf := uT st n none
def ToldS (T : AS) (st : Nat → Option nf) (cs : List de) (r : AV) : Prop :=
 (jZ cs = false ∧ r = .tuple [.aH, .int .i64 30]) ∨ (jZ cs = true ∧ ∃ v l, r = .tuple [v, .int .i64 0] ∧ Sl T v 1 (cI l) ∧ l.Pairwise (· < ·) ∧ l.length ≤ 1048576 ∧ ∀ n, n ∈ l ↔ ∃ v, st n = some v ∧ di cs v.2 = true)
section
variable {S : AS} {X : XI} {st : Nat → Option nf} {K : Nat}
theorem new_live : ai C1 8 [] S fun v T => v = .ptr (S.next + 2) 0 0 2 ∧ Live T (X0 S.next) (fun _ => none) 0 ∧ Sub S T ∧ T.next = S.next + 3 :=
 (up_id new8).mono fun v T ⟨h1, h2, h3, h4⟩ => ⟨h1, ⟨h2, fun m hm => (by cases hm), fun m hm => (by cases hm), fun n v => ⟨fun h => (by cases h), fun ⟨e, he, _⟩ => (by cases he)⟩, Nat.le_refl _⟩, h3, h4⟩
where
 up_id {f : FuncId} {vs : List AV} {S : AS} {Q : AV → AS → Prop} (h : ai C1 f vs S Q) : ai C1 f vs S Q := h
theorem wQ {n : Nat} {key : List Nat} {u : AV} {ar : List dD} (h : Live S X st K) (hu : eF S u ar) (hux : ∀ id, cJ u = id + 1 → ¬ X.wf id) (hk : K + 100 ≤ 1048576) :
  ai C1 9 [.ptr X.x 0 0 2, .int .u64 (n : Int), .agg [.str key, u]] S fun r T => ∃ X', Live T X' (tf st n (key, ar)) (K + 9) ∧ Step S T X X' ∧ X'.x = X.x ∧ r = .int .i64 (ql st n (key, ar)) := by
 refine (add9 h.ix h.ne hu hux (by have := h.k; omega)).mono ?_
 rintro r T ⟨X', g1, g2, g3, g4, g5, g6⟩
 have uE := h.k;have hsome : (st n).isSome = true ↔ ∃ e, e ∈ X.eb ∧ e.n = n := by
  cases fQ : st n with
  | none =>
   refine ⟨fun h => (by cases h), fun ⟨e, he, hn⟩ => ?_⟩
   have := (h.oV n (e.key, e.ar)).2 ⟨e, he, hn, rfl⟩;rw [fQ] at this; cases this
  | some v =>
   obtain ⟨e, he, hn, _⟩ := (h.oV n v).1 fQ;exact ⟨fun _ => ⟨e, he, hn⟩, fun _ => rfl⟩
 rcases g6 with ⟨h1, rfl, h3⟩ | ⟨h1, h2, rfl, h3⟩ | ⟨h1, h2, rfl, u', h3⟩
 ·have he : ql st n (key, ar) = 30 := by unfold ql Ah; rw [if_pos h1]
  refine ⟨X', ⟨g1, g2, fun e he => h.may e (by rw [← h3]; exact he), fun m v => ?_, by omega⟩, g3, g4, by rw [he]⟩
  unfold tf;rw [if_neg (by rw [he]; decide), h3]; exact h.oV m v
 ·have he : ql st n (key, ar) = 9 := by unfold ql Ah; rw [if_neg (by rw [h1]; decide), if_pos (hsome.2 h2)]
  refine ⟨X', ⟨g1, g2, fun e he => h.may e (by rw [← h3]; exact he), fun m v => ?_, by omega⟩, g3, g4, by rw [he]⟩
  unfold tf;rw [if_neg (by rw [he]; decide), h3]; exact h.oV m v
 ·have pW : ¬ (st n).isSome = true := fun hh => by
   obtain ⟨e, he, hn⟩ := hsome.1 hh;exact h2 e he hn
  have he : ql st n (key, ar) = 0 := by unfold ql Ah; rw [if_neg (by rw [h1]; decide), if_neg pW]
  refine ⟨X', ⟨g1, g2, fun e he => ?_, fun m v => ?_, by omega⟩, g3, g4, by rw [he]⟩
  ·rw [h3] at he
   rcases List.mem_append.1 he with he | he
   ·exact h.may e he
   ·simp at he; subst he; exact h1
  ·unfold tf
   rw [if_pos he, h3];unfold uT
   by_cases hm : m = n
   ·subst hm
    rw [if_pos rfl]
    constructor
    ·intro hv
     cases hv
     exact ⟨_, List.mem_append.2 (.inr (List.mem_singleton.2 rfl)), rfl, rfl⟩
    ·rintro ⟨e, he, hn, hv⟩
     rcases List.mem_append.1 he with he | he
     ·exact absurd hn (h2 e he)
     ·simp at he; subst he
      rw [← hv]
   ·rw [if_neg hm, h.oV m v]
    constructor
    ·rintro ⟨e, he, hn, hv⟩
     exact ⟨e, List.mem_append.2 (.inl he), hn, hv⟩
    ·rintro ⟨e, he, hn, hv⟩
     rcases List.mem_append.1 he with he | he
     ·exact ⟨e, he, hn, hv⟩
     ·simp at he; subst he
      exact absurd hn (fun e => hm e.symm)
theorem qI {n : Nat} (h : Live S X st K) (hk : K ≤ 1048576) :
  ai C1 11 [.ptr X.x 0 0 2, .int .u64 (n : Int)] S fun r T => ∃ X', Live T X' (remS st n) K ∧ Step S T X X' ∧ X'.x = X.x ∧ r = .int .i64 (remE st n) := by
 have uE := h.k;refine (remove11 h.ix h.ne h.may (by omega)).mono ?_
 rintro r T ⟨X', g1, g2, g3, g4, g5, g6⟩
 rcases g6 with ⟨h1, rfl, h3⟩ | ⟨⟨e0, h1, h2⟩, rfl, h3⟩
 ·have pW : st n = none := by
   cases fQ : st n with
   | none => rfl
   | some v =>
    obtain ⟨e, he, hn, _⟩ := (h.oV n v).1 fQ;exact absurd hn (h1 e he)
  refine ⟨X', ⟨g1, g2, fun e he => h.may e (by rw [← h3]; exact he), fun m v => ?_, by omega⟩, g3, g4, by unfold remE; rw [pW]; rfl⟩
  rw [h3, ← h.oV m v];unfold remS uT
  by_cases hm : m = n
  ·rw [if_pos hm, hm, pW]
  ·rw [if_neg hm]
 ·have hs : (st n).isSome = true := by
   have := (h.oV n (e0.key, e0.ar)).2 ⟨e0, h1, h2, rfl⟩;rw [this]; rfl
  have hme := vB (n := n) h.ix.evk;refine ⟨X', ⟨g1, g2, fun e he => h.may e ?_, fun m v => ?_, by omega⟩, g3, g4, by unfold remE; rw [if_pos hs]⟩
  ·rw [h3] at he; exact ((hme e).1 he).1
  ·rw [h3]
   unfold remS uT
   by_cases hm : m = n
   ·rw [if_pos hm]
    refine ⟨fun h => (by cases h), fun ⟨e, he, hn, _⟩ => absurd (hn.trans hm) ((hme e).1 he).2⟩
   ·rw [if_neg hm, h.oV m v]
    constructor
    ·rintro ⟨e, he, hn, hv⟩
     exact ⟨e, (hme e).2 ⟨he, fun hh => hm (hn.symm.trans hh)⟩, hn, hv⟩
    ·rintro ⟨e, he, hn, hv⟩
     exact ⟨e, ((hme e).1 he).1, hn, hv⟩
theorem EF {p : AV} {cs : List de} (h : Live S X st K) (hp : js S p cs) (hk : K ≤ 1048576) : ai C1 12 [.ptr X.x 0 0 2, p] S fun r T => Sub S T ∧ ToldS T st cs r := by
 have uE := h.k;refine (query12 h.ix h.may hp (by omega)).mono ?_
 rintro r T ⟨h1, h2⟩
 refine ⟨h1, ?_⟩;rcases h2 with ⟨h2, h3⟩ | ⟨h2, v, l, h3, h4, h5, h6, h7⟩
 ·exact .inl ⟨h2, h3⟩
 ·refine .inr ⟨h2, v, l, h3, h4, h5, by omega, fun n => ?_⟩
  rw [h7 n]
  constructor
  ·rintro ⟨e, he, hn, hm⟩
   exact ⟨(e.key, e.ar), (h.oV n _).2 ⟨e, he, hn, rfl⟩, hm⟩
  ·rintro ⟨w, hw, hm⟩
   obtain ⟨e, he, hn, rfl⟩ := (h.oV n w).1 hw;exact ⟨e, he, hn, hm⟩
theorem Aa (h : Live S X st K) (hk : K ≤ 1048576) : ai C1 17 [.ptr X.x 0 0 2] S fun v T => Sub S T ∧ ∃ l, Sl T v 1 (cI l) ∧ l.Pairwise (· < ·) ∧ l.length ≤ 1048576 ∧ ∀ n, n ∈ l ↔ (st n).isSome = true := by
 have uE := h.k;refine (yG h.ix (by omega)).mono ?_
 rintro v T ⟨h1, h2⟩
 refine ⟨h2, fO X, h1, yF h.ix, ?_, fun n => ?_⟩
 ·unfold fO
  rw [List.length_mergeSort, List.length_map];have := h.ix.evl; omega
 ·rw [vt]
  cases fQ : st n with
  | none =>
   refine ⟨fun ⟨e, he, hn⟩ => ?_, fun h => (by cases h)⟩
   have := (h.oV n (e.key, e.ar)).2 ⟨e, he, hn, rfl⟩;rw [fQ] at this; cases this
  | some v =>
   obtain ⟨e, he, hn, _⟩ := (h.oV n v).1 fQ;exact ⟨fun _ => rfl, fun _ => ⟨e, he, hn⟩⟩
end
theorem rise_eq {l m : List Nat} (h1 : l.Pairwise (· < ·)) (h2 : m.Pairwise (· < ·)) (h : ∀ n, n ∈ l ↔ n ∈ m) : l = m := by
 have hp : l.Perm m := (List.perm_ext_iff_of_nodup (h1.imp fun h => by omega) (h2.imp fun h => by omega)).2 h
 exact List.Perm.eq_of_pairwise (le := (· < ·)) (fun a b _ _ h1 h2 => by omega) h1 h2 hp
theorem fn16 : C0.fns.get 16 = some Tryz.f16 := by kernel_rfl
theorem ok16 : codeOk C0 Tryz.f16.ntmps (Tryz.f16.body.getD .skip) = true := by kernel_rfl
def saH (S : AS) (u v : AV) (l m : List Nat) (k : Nat) (F' : Fr) (S' : AS) : Prop :=
 S' = S ∧ ∃ i : Nat, sl F' 0 = u ∧ sl F' 1 = v ∧ sl F' 5 = .int .i64 (i : Int) ∧ i ≤ l.length ∧ l.take i = m.take i ∧ k = l.length - i ∧ F'.n = 26
theorem nt16 : Tryz.f16.ntmps = 26 := by kernel_rfl
theorem qP {l : List Nat} {i : Nat} {x : Nat} (h : l[i]? = some x) : (cI l)[i]? = some (.int .u64 (x : Int)) := by unfold cI; rw [List.getElem?_map, h]; rfl
theorem same16 {S : AS} {u v : AV} {l m : List Nat} (hu : Sl S u 1 (cI l)) (hv : Sl S v 1 (cI m)) (hl : l.length ≤ 1048576) (hm : m.length ≤ 1048576) : ai C0 16 [u, v] S fun r T => r = .bool (decide (l = m)) ∧ T = S := by
 have u1 := hu.sl;have u2 := hu.sm;have v1 := hv.sl;have v2 := hv.sm;rw [ek] at u2 v2;have uo := hu.ok;have vo := hv.ok;refine cU (dm _) (dn _ rfl) fn16 rfl ok16 (by simp) fun F hn s0 s1 => ?_
 rw [nt16] at hn
 by_cases hlm : l.length = m.length
 ·have hlm' : (l.length : Int) = (m.length : Int) := by omega
  simp [s0, s1, u1, u2, v1, v2, hlm'];refine aB (saH S u v l m) l.length ⟨rfl, 0, by simp [s0], by simp [s1], by simp, Nat.zero_le _, rfl, rfl, by simp [hn]⟩ ?_
  clear s0 s1 hn
  rintro k F' S' df ⟨rfl, i, t0, t1, t5, hi, ht, hk, hn⟩
  clear df
  by_cases b9 : i < l.length
  ·have hx : l[i]? = some l[i] := List.getElem?_eq_getElem b9
   have hy : m[i]? = some m[i] := List.getElem?_eq_getElem (by omega)
   have lx := lB (cx := C0) (e := 30) hu (qP hx) ag30;have ly := lB (cx := C0) (e := 30) hv (qP hy) ag30;have hw := aN (show i < 9223372036854775807 by omega)
   simp [t0, t1, t5, u1, u2, b9, hn];refine jQ (n := 26) (by kernel_rfl) (by simp [hn]) ?_
   by_cases rF : l[i] = m[i]
   ·have hxy' : (l[i] : Int) = (m[i] : Int) := by omega
    simp [t0, t1, t5, u1, u2, v1, v2, b9, show i < m.length by omega, lx, ly, hxy', uo, vo]
    exact ⟨l.length - (i + 1), by omega, rfl, i + 1, by simp [t0], by simp [t1], by simp [hw, -Int.natCast_add], b9, take_more ht b9 (by omega) rF, rfl, by simp [hn]⟩
   ·have hxy' : ¬ (l[i] : Int) = (m[i] : Int) := by omega
    have bO : l ≠ m := fun e => rF (by subst e; rfl)
    simp [t0, t1, t5, u1, u2, v1, v2, b9, show i < m.length by omega, lx, ly, hxy', uo, vo, bO]
  ·have heq : l = m := by
    rw [List.take_of_length_le (by omega), List.take_of_length_le (by omega)] at ht
    exact ht
   subst heq;simp [t0, t1, t5, u1, u2, b9]
 ·have hlm' : ¬ (l.length : Int) = (m.length : Int) := by omega
  have bO : l ≠ m := fun e => hlm (by rw [e])
  simp [s0, s1, u1, u2, v1, v2, hlm', hlm, bO]
def flT (cx : Am.Cx) (t : TypeId) : Option (List TypeId) := match aZ cx t with | some (.struct fs) => some (fs.toList.map (·.type)) | _ => none
structure tU (cx : Am.Cx) : Prop where
 un3 : aZ cx 3 = some (.int .i64)
 un2 : aZ cx 2 = some (.int .i64)
 un4 : aZ cx 4 = some .bool
 iE : aZ cx 9 = some .string
 un30 : aZ cx 30 = some (.int .u64)
 un36 : aZ cx 36 = some (.int .u16)
 fl50 : flT cx 50 = some [3, 2, 9, 4]
 fl65 : flT cx 65 = some [9, 50]
 fl54 : flT cx 54 = some [9, 3, 50, 51]
 fl33 : flT cx 33 = some [9, 31]
 un25 : aZ cx 25 = some (.slice 54)
 un22 : aZ cx 22 = some (.slice 33)
 un23 : aZ cx 23 = some (.slice 36)
 un51 : aZ cx 51 = some (.slice 50)
 un31 : aZ cx 31 = some (.slice 65)
 sz50 : aw cx 50 = some 4
 sz54 : aw cx 54 = some 7
 sz65 : aw cx 65 = some 5
 sz33 : aw cx 33 = some 2
 sz36 : aw cx 36 = some 1
 by65 : bytesOf cx 65 = some 56
 ag22 : aE cx 22 = some false
 ag23 : aE cx 23 = some false
 ag25 : aE cx 25 = some false
 ag33 : aE cx 33 = some true
 ag50 : aE cx 50 = some true
 ag9 : aE cx 9 = some false
theorem facts1 : tU C1 := ⟨by kernel_rfl, by kernel_rfl, by kernel_rfl, by kernel_rfl, by kernel_rfl, by kernel_rfl, by kernel_rfl, by kernel_rfl, by kernel_rfl, by kernel_rfl, by kernel_rfl, by kernel_rfl, by kernel_rfl, by kernel_rfl, by kernel_rfl, by kernel_rfl, by kernel_rfl, by kernel_rfl, by kernel_rfl, by kernel_rfl, by kernel_rfl, by kernel_rfl, by kernel_rfl, by kernel_rfl, by kernel_rfl, by kernel_rfl, by kernel_rfl⟩
section
variable {cx : Am.Cx}
theorem vb {S : AS} {m : Nat} {t : TypeId} {l : List TypeId} {x : List AV} (h : flT cx t = some l) (hx : bt cx S (m + 1) t x) : oP (aw cx) (bt cx S m) l x := by
 unfold flT at h
 split at h
 ·rename_i fs hu
  cases h
  unfold bt at hx;simp only [hu] at hx;exact hx
 ·cases h
theorem chunks {α : Type} {sz : Nat} {enc : α → List AV} {G : α → Prop} : ∀ (k : Nat) (cells : List AV), cells.length = k * sz → (∀ i, i < k → ∃ a, (cells.drop (i * sz)).take sz = enc a ∧ G a) → ∃ l : List α, l.length = k ∧ cells = l.flatMap enc ∧ ∀ a, a ∈ l → G a
 | 0, cells, h, _ => by
  rw [Nat.zero_mul] at h;exact ⟨[], rfl, by rw [List.length_eq_zero_iff.1 h]; rfl, fun a ha => by cases ha⟩
 | k + 1, cells, h, hc => by
  obtain ⟨a, e, g⟩ := hc 0 (by omega)
  rw [Nat.succ_mul] at h;obtain ⟨l, h1, h2, h3⟩ := chunks (sz := sz) (enc := enc) (G := G) k (cells.drop sz) (by rw [List.length_drop]; omega) (fun i hi => by
   obtain ⟨b, e, g⟩ := hc (i + 1) (by omega)
   refine ⟨b, ?_, g⟩;rw [← e, List.drop_drop]
   congr 2
   rw [Nat.succ_mul, Nat.add_comm])
  refine ⟨a :: l, by rw [List.length_cons, h1], ?_, fun b hb => ?_⟩
  ·rw [List.flatMap_cons, ← h2, ← e, Nat.zero_mul, List.drop_zero, List.take_append_drop]
  ·rcases List.mem_cons.1 hb with rfl | hb
   ·exact g
   ·exact h3 b hb
theorem sl_of {S : AS} {m : Nat} {t e sz : Nat} {oS : List AV} (hu : aZ cx t = some (.slice e)) (hs : aw cx e = some sz) (h : bt cx S (m + 1) t oS) {α : Type} {enc : α → List AV} {G : α → Prop} (hz : ∀ a, (enc a).length = sz)
  (hel : ∀ x, bt cx S m e x → ∃ a, x = enc a ∧ G a) : ∃ (u : AV) (l : List α), oS = [u] ∧ Sl S u sz (l.flatMap enc) ∧ (∀ a, a ∈ l → G a) ∧ l.length ≤ maxLen ∧ ∀ bs, bytesOf cx e = some bs → l.length * bs ≤ reachBytes := by
 unfold bt at h;simp only [hu] at h;rcases h with rfl | ⟨id, len, cap, sz', rfl, h1, h2, h3, h4, hb, h5, h6⟩
 ·exact ⟨_, [], rfl, Sl.nil, fun a ha => (by cases ha), by simp, fun bs _ => by simp⟩
 ·rw [hs] at h1
  cases h1
  rcases h6 with rfl | ⟨cells, ty, g1, g2, g3⟩
  ·obtain rfl : len = 0 := by omega
   exact ⟨_, [], rfl, ⟨by simp [isSl, jr], rfl, by simp [sLen], h5⟩, fun a ha => (by cases ha), by simp, fun bs _ => by simp⟩
  ·obtain ⟨l, k1, k2, k3⟩ := chunks cap cells g2 fun i hi => hel _ (g3 i hi)
   subst k2;refine ⟨_, l.take len, rfl, ⟨by simp [isSl, jr, h3], ?_, by rw [my hz, List.length_take]; simp only [sLen]; congr 1; omega, h5⟩, fun a ha => k3 a (List.mem_of_mem_take ha), by rw [List.length_take]; omega, fun bs hbs => Nat.le_trans (Nat.mul_le_mul_right _ (by rw [List.length_take]; omega)) (hb bs hbs)⟩
   cases len with
   | zero => simp [nC]
   | succ len =>
    simp only [nC, fV, g1, dQ];rw [if_pos ⟨Nat.le_refl _, Nat.le_refl _, by rw [Nat.zero_add]; exact Nat.mul_le_mul_right _ h3⟩, List.drop_zero, mw hz]
theorem Al {S : AS} {m : Nat} {t : TypeId} {oS : List AV} (hu : aZ cx t = some (.int .i64)) (h : bt cx S (m + 1) t oS) : ∃ n : Int, oS = [.int .i64 n] := by
 unfold bt at h;simp only [hu] at h;obtain ⟨n, e, _, _⟩ := h;exact ⟨n, e⟩
theorem u64_of {S : AS} {m : Nat} {t : TypeId} {oS : List AV} (hu : aZ cx t = some (.int .u64)) (h : bt cx S (m + 1) t oS) : ∃ n : Nat, oS = [.int .u64 n] ∧ n < 18446744073709551616 := by
 unfold bt at h;simp only [hu] at h;obtain ⟨n, e, k1, k2⟩ := h;have xw : IntKind.u64.max = 18446744073709551615 := rfl;have hmin : IntKind.u64.min = 0 := rfl;rw [hmin] at k1; rw [xw] at k2;exact ⟨n.toNat, by rw [e, Int.toNat_of_nonneg k1], by omega⟩
theorem zI {S : AS} {m : Nat} {t : TypeId} {oS : List AV} (hu : aZ cx t = some .string) (h : bt cx S (m + 1) t oS) : ∃ s : List Nat, oS = [.str s] := by
 unfold bt at h;simp only [hu] at h;obtain ⟨s, e, _⟩ := h;exact ⟨s, e⟩
theorem bool_of {S : AS} {m : Nat} {t : TypeId} {oS : List AV} (hu : aZ cx t = some .bool) (h : bt cx S (m + 1) t oS) : ∃ b : Bool, oS = [.bool b] := by
 unfold bt at h;simp only [hu] at h;exact h
theorem D1 (K : tU cx) {S : AS} {m : Nat} {x : List AV} (h : bt cx S (m + 2) 50 x) : ∃ v : gN, x = aS v := by
 obtain ⟨a, _, rfl, _, h1, b, _, rfl, _, h2, c, _, rfl, _, h3, d, _, rfl, _, h4, rfl⟩ := vb K.fl50 h;obtain ⟨k, rfl⟩ := Al K.un3 h1;obtain ⟨n, rfl⟩ := Al K.un2 h2;obtain ⟨s, rfl⟩ := zI K.iE h3;obtain ⟨b, rfl⟩ := bool_of K.un4 h4;exact ⟨⟨k, n, s, b⟩, rfl⟩
theorem con_of (K : tU cx) {S : AS} {m : Nat} {x : List AV} (h : bt cx S (m + 4) 54 x) : ∃ c : de, x = bo c ∧ kC S c := by
 obtain ⟨a, _, rfl, _, h1, b, _, rfl, _, h2, c, _, rfl, _, h3, d, _, rfl, _, h4, rfl⟩ := vb K.fl54 h;obtain ⟨s, rfl⟩ := zI K.iE h1;obtain ⟨o, rfl⟩ := Al K.un3 h2;obtain ⟨v, rfl⟩ := D1 K h3;obtain ⟨u, l, rfl, g1, _, g2, _⟩ := sl_of (G := fun _ => True) K.un51 K.sz50 h4 jk (fun x hx => by obtain ⟨v, e⟩ := D1 K hx; exact ⟨v, e, trivial⟩)
 exact ⟨⟨s, o, v, u, l⟩, by simp [bo, aS], ⟨g1, Nat.le_trans g2 (by decide)⟩⟩
theorem pred_of (K : tU cx) {S : AS} {m : Nat} {x : List AV} (h : bt cx S (m + 5) 25 x) : ∃ (p : AV) (ks : List de), x = [p] ∧ js S p ks := by
 obtain ⟨u, l, rfl, g1, g2, g3, _⟩ := sl_of K.un25 K.sz54 h dy (fun x hx => con_of K hx)
 exact ⟨u, l, rfl, g1, g2, Nat.le_trans g3 (by decide)⟩
structure kN where
 key : List Nat
 u : AV
 ar : List dD
def fY (e : kN) : List AV := [.str e.key, e.u]
theorem ey (e : kN) : (fY e).length = 2 := rfl
def enc16 (n : Nat) : List AV := [.int .u16 (n : Int)]
end
end Go.Proofs.YtfempihpphbgmaaGreat.idx
namespace Go.Proofs.YtfempihpphbgmaaGreat.ready
open Go Go.Am Go.ChangeShapes Go.WideShapes Go.ChangeAt Go.RowKit
set_option linter.unusedVariables false
set_option linter.unusedSimpArgs false
abbrev P : Program := Tryz.prog
theorem own : ownKnob P.godebug = none := by kernel_rfl
theorem names : P.funcs.toList.all (fun fn => !(fn.name == "runtime.NumGoroutine")) = true := by kernel_rfl
theorem stood50 : P.stoodInHeld 50 = false ∧ P.eqGuardType P.depth 50 = false := ⟨by kernel_rfl, by kernel_rfl⟩
theorem stood65 : P.stoodInHeld 65 = false ∧ P.eqGuardType P.depth 65 = false := ⟨by kernel_rfl, by kernel_rfl⟩
theorem fields50 : (P.fieldsOf 50).toList.all (fun f => !(f.name == "_")) = true := by kernel_rfl
theorem fields65 : (P.fieldsOf 65).toList.all (fun f => !(f.name == "_")) = true := by kernel_rfl
theorem ext132 (a b : ByteArray) (w : World) : (callFunc 132 #[.string a, .string b]).run P w = .ok (.value (.int .i64 (Lib.compareBytes a.data.toList b.data.toList))) w := by
 have h : (callFunc 132 #[.string a, .string b]).run P w = ((do pure (.value (← Extern.BytealgCompare.compare #[.string a, .string b])) : Sem Next)).run P w := by kernel_rfl
 rw [h];simp only [Sem.run_bind, Lib.run_compareString, Result.andThen_ok, Sem.run_pure]
theorem size80 (w : World) : (Go.sizeOf 80).run P w = .ok 5 w := by kernel_rfl
theorem ext57 (args : Array Value) (w : World) : (callFunc 57 args).run P w = ((Extern.SlicesOverlaps.overlaps #[78, 78] #[4] args).run P w).andThen fun v w' => .ok (.value v) w' := by
 have h : (callFunc 57 args).run P w = ((do pure (.value (← Extern.SlicesOverlaps.overlaps #[78, 78] #[4] args)) : Sem Next)).run P w := by kernel_rfl
 rw [h];simp only [Sem.run_bind, Sem.run_pure]
theorem ready (A : Am.Ask) (h1 : ∀ t, t ∈ A.eqs → t = 50 ∨ t = 65) (h2 : ∀ x, x ∈ A.exts → x = (57, .apart) ∨ x = (132, .iS)) : Am.jA P A := by
 refine ⟨by kernel_rfl, fun t h => ?_, Am.enters_ok names, fun x h => ?_⟩
 ·rcases h1 t h with rfl | rfl
  ·refine ⟨stood50.1, stood50.2, fun f hf => ?_⟩
   have := List.all_eq_true.1 fields50 f hf;simpa using this
  ·refine ⟨stood65.1, stood65.2, fun f hf => ?_⟩
   have := List.all_eq_true.1 fields65 f hf;simpa using this
 ·rcases h2 x h with rfl | rfl
  ·exact ⟨78, 4, 80, 5, by kernel_rfl, size80, ext57⟩
  ·intro a b w
   rw [← zi];exact ext132 a b w
theorem zT : Am.jA P ins.A8 := ready _ (fun t h => by cases h) (fun x h => by
 simp only [ins.A8, List.mem_cons, List.not_mem_nil, or_false] at h;exact .inl h)
def N0 : Am.Ask := { eqs := [50, 65], exts := [(57, .apart), (132, .iS)], aV := [(31, ins.q31), (34, ins.q34)], eh := [46] }
theorem readyN : Am.jA P N0 := ready _ (fun t h => by
 simp only [N0, List.mem_cons, List.not_mem_nil, or_false] at h;exact h) (fun x h => by
 simp only [N0, List.mem_cons, List.not_mem_nil, or_false] at h;exact h)
theorem primsN (Λ : LB) : ∀ x, x ∈ N0.aV → dY Λ Tryz.prog x.1 x.2 := by
 intro x hx;simp only [N0, List.mem_cons, List.not_mem_nil, or_false] at hx;rcases hx with rfl | rfl
 ·exact ins.prim31 zT
 ·exact ins.prim34 zT
theorem answer : true = Am.says Tryz.prog N0 1000000 14 true := by kernel_rfl
theorem awake (W : World) : Calls Tryz.prog 14 #[] W fun e w' => e = .returned (.bool true) ∧ Below W.heap.size W w' :=
 Am.call_fast0 readyN primsN rfl 1000000 14 true answer W
open Go Go.Am Go.ChangeShapes Go.WideShapes Go.ChangeAt Go.RowKit Go.Proofs.YtfempihpphbgmaaGreat.idx
theorem readyA1 : Am.jA P A1 := ready _ (fun t h => by
 simp only [A1, List.mem_cons, List.not_mem_nil, or_false] at h;exact h) (fun x h => by
 simp only [A1, List.mem_cons, List.not_mem_nil, or_false] at h;exact .inr h)
theorem readyAs : Am.jA P As := ready _ (fun t h => by
 simp only [As, List.mem_cons, List.not_mem_nil, or_false] at h;exact h) (fun x h => by
 simp only [As, List.mem_cons, List.not_mem_nil, or_false] at h;exact .inr h)
theorem primsAs (Λ : LB) : ∀ x, x ∈ As.aV → dY Λ Tryz.prog x.1 x.2 := by
 intro x hx;simp only [As, List.mem_cons, List.not_mem_nil, or_false] at hx;subst hx;exact Am.Dp Tryz.func14 rfl awake
theorem primsA1 (Λ : LB) : ∀ x, x ∈ A1.aV → dY Λ Tryz.prog x.1 x.2 := by
 intro x hx;simp only [A1, List.mem_cons, List.not_mem_nil, or_false] at hx;rcases hx with rfl | rfl | rfl | rfl | rfl
 ·exact Am.Dp Tryz.func14 rfl awake
 ·exact ins.prim31 zT
 ·exact ins.prim34 zT
 ·exact prim46 readyAs (primsAs Λ) (fun x hx => by cases hx)
 ·exact prim52
end Go.Proofs.YtfempihpphbgmaaGreat.ready
namespace Go.Proofs.YtfempihpphbgmaaGreat.idx
open Go Go.Am Go.Proofs.YtfempihpphbgmaaGreat.mod
set_option linter.unusedVariables false
set_option linter.unusedSimpArgs false
@[simp] theorem o_st22 : kP C1 22 = some (33, 2, 40) := by kernel_rfl
@[simp] theorem o_cv3_30 : nW C1 3 30 = some .u64 := by kernel_rfl
@[simp] theorem o_st35 : kP C1 35 = some (4, 1, 1) := by kernel_rfl
@[simp] theorem o_st23 : kP C1 23 = some (36, 1, 2) := by kernel_rfl
@[simp] theorem o_ag36 : aE C1 36 = some false := by kernel_rfl
@[simp] theorem o_sz36 : aw C1 36 = some 1 := by kernel_rfl
@[simp] theorem o_cv36_3 : nW C1 36 3 = some .i64 := by kernel_rfl
@[simp] theorem o_ag4 : aE C1 4 = some false := by kernel_rfl
@[simp] theorem o_sz4 : aw C1 4 = some 1 := by kernel_rfl
@[simp] theorem o_un25 : aZ C1 25 = some (.slice 54) := by kernel_rfl
@[simp] theorem o_sz26 : aw C1 26 = some 1 := by kernel_rfl
@[simp] theorem o_ze26 : zeroOf C1 26 = some (.dT) := by kernel_rfl
@[simp] theorem o_ag26 : aE C1 26 = some false := by kernel_rfl
@[simp] theorem o_st51 : kP C1 51 = some (50, 4, 40) := by kernel_rfl
@[simp] theorem o_ag51 : aE C1 51 = some false := by kernel_rfl
@[simp] theorem o_mk52 : xr C1 52 = some ((.int .u64), .int .i64 0) := by kernel_rfl
@[simp] theorem o_ag25 : aE C1 25 = some false := by kernel_rfl
@[simp] theorem o_mt52 : E3 C1 52 = true := by kernel_rfl
def kN.d (e : kN) : nf := (e.key, e.ar)
def stOf (L : List kN) (i : Nat) (n : Nat) : Option nf := if n < i then (match L[n]? with | some e => if Ah e.d then some e.d else none | none => none) else none
structure Given (S : AS) (u : AV) (L : List kN) : Prop where
 sl : Sl S u 2 (L.flatMap fY)
 kK : ∀ e, e ∈ L → eF S e.u e.ar
 le : L.length ≤ 60
def ex1H (S0 : AS) (L : List kN) (u g p : AV) (x : Nat) (k : Nat) (F' : Fr) (S' : AS) : Prop :=
 ∃ (i : Nat) (X : XI), Sub S0 S' ∧ Live S' X (stOf L i) (9 * i) ∧ X.x = x ∧ (∀ id, X.fm id → S0.next ≤ id) ∧ sl F' 0 = u ∧ sl F' 1 = g ∧ sl F' 2 = p ∧ sl F' 7 = .ptr x 0 0 2 ∧ sl F' 8 = .int .i64 (i : Int) ∧ i ≤ L.length ∧ k = L.length - i ∧ F'.n = 151
def stR (L : List kN) (o : List Bool) (n : Nat) : Option nf := match L[n]? with | some e => if Ah e.d && !((o[n]?).getD false) then some e.d else none | none => none
def ex2H (S0 : AS) (L : List kN) (u g p w : AV) (x B : Nat) (gs : List Nat) (k : Nat) (F' : Fr) (S' : AS) : Prop :=
 ∃ (i : Nat) (X : XI) (o : List Bool), Sub S0 S' ∧ Live S' X (stR L o) 600 ∧ X.x = x ∧ (∀ id, X.fm id → S0.next ≤ id ∧ id ≠ B) ∧ o.length = L.length ∧ Gw S' w 1 4 (o.map AV.bool) ∧ cJ w = B + 1 ∧ S0.next ≤ B ∧ sl F' 0 = u ∧ sl F' 1 = g ∧ sl F' 2 = p ∧ sl F' 7 = .ptr x 0 0 2 ∧ sl F' 9 = w ∧ sl F' 10 = .int .i64 (i : Int) ∧ i ≤ gs.length ∧ k = gs.length - i ∧ F'.n = 151
def ex2M (S0 : AS) (L : List kN) (u p w : AV) (x B : Nat) (F' : Fr) (S' : AS) : Prop :=
 ∃ (X : XI) (o : List Bool), Sub S0 S' ∧ Live S' X (stR L o) 600 ∧ X.x = x ∧ o.length = L.length ∧ Sl S' w 1 (o.map AV.bool) ∧ sl F' 0 = u ∧ sl F' 2 = p ∧ sl F' 7 = .ptr x 0 0 2 ∧ sl F' 9 = w ∧ F'.n = 151
def wantN (st : Nat → Option nf) (cs : List de) (i : Nat) : List Nat := (List.range i).filter fun n => match st n with | some d => di cs d.2 | none => false
def ex3H (S0 : AS) (L : List kN) (u p w v : AV) (st : Nat → Option nf) (cs : List de) (k : Nat) (F' : Fr) (S' : AS) : Prop :=
 ∃ (i : Nat) (z : AV), Sub S0 S' ∧ Own S' S0.next z 1 30 (cI (wantN st cs i)) ∧ sl F' 0 = u ∧ sl F' 2 = p ∧ sl F' 9 = w ∧ sl F' 13 = v ∧ sl F' 15 = z ∧ sl F' 16 = .int .i64 (i : Int) ∧ i ≤ L.length ∧ k = L.length - i ∧ F'.n = 151
section
variable {S : AS}
end
def AskAt (T : AS) (st : Nat → Option nf) (c : de) (r : AV) : Prop :=
 (jZ [c] = false ∧ r = .gm) ∨ (jZ [c] = true ∧ ∃ (id : Nat) (l : List Nat), r = .map id ∧ Mp T (.map id) (fun n : Nat => AV.int .u64 (n : Int)) (l.map fun n => (n, AV.int .i64 1)) ∧ l.Pairwise (· < ·) ∧ ∀ n, n ∈ l ↔ ∃ v, st n = some v ∧ di [c] v.2 = true)
def akH (S0 T : AS) (v : AV) (l : List Nat) (code : Int) (k : Nat) (F' : Fr) (S' : AS) : Prop :=
 ∃ i : Nat, Sub T S' ∧ Mp S' (.map T.next) (fun n : Nat => AV.int .u64 (n : Int)) ((l.take i).map fun n => (n, AV.int .i64 1)) ∧ sl F' 8 = .gm ∧ sl F' 9 = v ∧ sl F' 10 = .int .i64 code ∧ sl F' 11 = .map T.next ∧ sl F' 12 = .int .i64 (i : Int) ∧ i ≤ l.length ∧ k = l.length - i ∧ F'.n = 39
section
variable {S : AS} {X : XI} {st : Nat → Option nf} {K : Nat}
end
theorem oL {l : List dD} {s : List Nat} : (fl l s).isSome = true ↔ ∃ v, (⟨s, v⟩ : dD) ∈ l := by
 unfold fl
 constructor
 ·intro h
  cases hf : l.find? fun a => fX a.name s with
  | none => rw [hf] at h; cases h
  | some a =>
   have h1 := List.find?_some hf;rw [fy] at h1;refine ⟨a.val, ?_⟩;have : (⟨s, a.val⟩ : dD) = a := by rw [← (of_decide_eq_true h1)]
   rw [this]; exact List.mem_of_find?_eq_some hf
 ·rintro ⟨v, hv⟩
  cases hf : l.find? fun a => fX a.name s with
  | none =>
   have := List.find?_eq_none.1 hf _ hv;simp [fy] at this
  | some a => rfl
theorem AF {S : AS} {X : XI} {st : Nat → Option nf} {K : Nat} (h : Live S X st K) (s : List Nat) {l : List Nat} (hl : l.Nodup) (hm : ∀ n, n ∈ l ↔ ∃ v, st n = some v ∧ (fl v.2 s).isSome = true) :
  ai C1 18 [.ptr X.x 0 0 2, .str s] S fun v T => T = S ∧ v = .int .i64 (l.length : Int) := by
 have hi := h.ix;have hnum : ∀ n, n ∈ (gX X s).map ef.n ↔ n ∈ l := fun n => by
  rw [hm n, List.mem_map]
  constructor
  ·rintro ⟨e, he, rfl⟩
   obtain ⟨ev, h1, h2, h3⟩ := (hi.xG s e).1 he;exact ⟨(ev.key, ev.ar), (h.oV _ _).2 ⟨ev, h1, h2, rfl⟩, oL.2 ⟨_, h3⟩⟩
  ·rintro ⟨v, h1, h2⟩
   obtain ⟨ev, h3, h4, rfl⟩ := (h.oV n v).1 h1;obtain ⟨x, hx⟩ := oL.1 h2;exact ⟨⟨x, n⟩, (hi.xG s ⟨x, n⟩).2 ⟨ev, h3, h4, hx⟩, rfl⟩
 have hinj : ∀ x y, x ∈ gX X s → y ∈ gX X s → x.n = y.n → x = y := fun x y hx hy rF => by
  obtain ⟨e, h1, h2, h3⟩ := (hi.xG s x).1 hx;obtain ⟨e', h4, h5, h6⟩ := (hi.xG s y).1 hy;have hee : e = e' := Classical.byContradiction fun hq => qJ hi.evk h1 h4 hq (by rw [h2, h5, rF])
  subst hee;have qW := (uJ (h.may e h1)).1;have hv : (⟨s, x.v⟩ : dD) = ⟨s, y.v⟩ := Classical.byContradiction fun hq => by
   have hr := pQ qW;have : e.ar.Pairwise fun a b => a.name ≠ b.name := hr.imp fun {a b} qz e0 => by rw [e0, oE] at qz; cases qz
   exact qJ this h3 h6 hq rfl
  obtain ⟨xv, xn⟩ := x;obtain ⟨yv, yn⟩ := y;simp only [dD.mk.injEq, true_and] at hv;simp only at rF;rw [hv, rF]
 have hnd : (gX X s).Nodup := (hi.entR s).imp fun {a b} qz e0 => by
  rw [e0] at qz;have := jX.self b; omega
 have hlen : (gX X s).length = l.length := by
  have hp : ((gX X s).map ef.n).Perm l := (List.perm_ext_iff_of_nodup (rZ hinj hnd) hl).2 hnum;have := hp.length_eq
  rwa [List.length_map] at this
 refine (entries18 hi s).mono ?_
 rintro v T ⟨rfl, hv⟩
 refine ⟨rfl, ?_⟩;rcases hv with ⟨m, eH, hn, rfl⟩ | ⟨pW, rfl⟩
 ·rcases hi.ent s with ⟨m', h1, h2, h3, h4⟩ | ⟨_, _, h3, _⟩
  ·have hmm : m = m' := Classical.byContradiction fun hq => qJ hi.tv eH h1 hq (hn.trans h2.symm)
   rw [hmm, ← h4, hlen]
  ·exact absurd hn (h3 m eH)
 ·have : gX X s = [] := by
   cases he : gX X s with
   | nil => rfl
   | cons a l => exact absurd ((hi.xG s a).1 (by rw [he]; exact List.mem_cons_self ..)) (pW a)
  rw [this] at hlen;simp at hlen;rw [← hlen]
  rfl
end Go.Proofs.YtfempihpphbgmaaGreat.idx
end
