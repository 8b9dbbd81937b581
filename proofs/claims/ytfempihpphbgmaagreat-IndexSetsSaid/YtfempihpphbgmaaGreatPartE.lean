/-
  An index as what it stands for: events by numbers.
  Arguments from outside: numbers, texts, values, attributes, events, constraints, predicates.
  What the claims on the index share: the examples run whole; the program is ready for the machine.
  The program is ready for the index's context; its contracts hold.
  IndexExact: just those that match.
  What constraints of a name find, as maps: IndexSets' closure.
  IndexSets: what constraints of a name find, as sets.
  IndexSets: what constraints of a name find, as sets.
  IndexSets: what constraints of a name find, as sets.
  IndexSets: the walk.
-/
import Derived.Test.YtfempihpphbgmaaGreatPartD
import Derived.Test.YtfempihpphbgmaaGreatAmArgs
import Derived.Test.YtfempihpphbgmaaGreatPartC
import Derived.Test.YtfempihpphbgmaaGreatAmHanded
import Derived.Test.YtfempihpphbgmaaGreatAmFast
import Derived.Test.YtfempihpphbgmaaGreatAmPrim
import Derived.LaidLaws
import Derived.Lib.LaidTab
import Derived.WalkKit
import Derived.ProofKit
namespace Go.Proofs.YtfempihpphbgmaaGreat.idx
open Go Go.Am Go.Proofs.YtfempihpphbgmaaGreat.mod
set_option linter.unusedVariables false
set_option linter.unusedSimpArgs false
abbrev EvD := List Nat × List Att
noncomputable def mayD (v : EvD) : Bool := evMay v.1 v.2
structure Live (S : AS) (X : XI) (st : Nat → Option EvD) (K : Nat) : Prop where
 ix : IxAt S X (hasP X)
 ne : NoEmpty X
 may : ∀ e, e ∈ X.evs → evMay e.key e.atts = true
 reps : ∀ n v, st n = some v ↔ ∃ e, e ∈ X.evs ∧ e.n = n ∧ (e.key, e.atts) = v
 k : X.k ≤ K
theorem Live.sub {S T : AS} {X : XI} {st : Nat → Option EvD} {K : Nat} (h : Live S X st K) (hs : Sub S T) : Live T X st K := { h with ix := h.ix.sub hs }
theorem Live.mono {S : AS} {X : XI} {st : Nat → Option EvD} {K K' : Nat} (h : Live S X st K) (hk : K ≤ K') : Live S X st K' := { h with k := Nat.le_trans h.k hk }
theorem Live.keep {S T : AS} {A : Nat → Prop} {X : XI} {st : Nat → Option EvD} {K : Nat} (h : Live S X st K) (hs : Keep A S T) (ha : ∀ id, X.foot id → ¬ A id) : Live T X st K := { h with ix := h.ix.keep hs ha }
theorem Live.foot {S : AS} {X : XI} {st : Nat → Option EvD} {K : Nat} (h : Live S X st K) {id : Nat} (hf : X.foot id) : id < S.next := h.ix.foot_lt hf
noncomputable def updE (st : Nat → Option EvD) (n : Nat) (v : Option EvD) (m : Nat) : Option EvD := if m = n then v else st m
noncomputable def addE (st : Nat → Option EvD) (n : Nat) (v : EvD) : Int := if mayD v = false then 30 else if (st n).isSome then 9 else 0
noncomputable def addS (st : Nat → Option EvD) (n : Nat) (v : EvD) : Nat → Option EvD := if addE st n v = 0 then updE st n (some v) else st
noncomputable def remE (st : Nat → Option EvD) (n : Nat) : Int := if (st n).isSome then 0 else 6
noncomputable def remS (st : Nat → Option EvD) (n : Nat) : Nat → Option EvD := updE st n none
def ToldS (T : AS) (st : Nat → Option EvD) (cs : List Con) (r : AV) : Prop :=
 (mayP cs = false ∧ r = .tuple [.nils, .int .i64 30]) ∨ (mayP cs = true ∧ ∃ v l, r = .tuple [v, .int .i64 0] ∧ Sl T v 1 (numL l) ∧ l.Pairwise (· < ·) ∧ l.length ≤ 1048576 ∧ ∀ n, n ∈ l ↔ ∃ v, st n = some v ∧ matchB cs v.2 = true)
section
variable {S : AS} {X : XI} {st : Nat → Option EvD} {K : Nat}
theorem new_live : CallW C1 8 [] S fun v T => v = .ptr (S.next + 2) 0 0 2 ∧ Live T (X0 S.next) (fun _ => none) 0 ∧ Sub S T ∧ T.next = S.next + 3 :=
 (up_id new8).mono fun v T ⟨h1, h2, h3, h4⟩ => ⟨h1, ⟨h2, fun m hm => (by cases hm), fun m hm => (by cases hm), fun n v => ⟨fun h => (by cases h), fun ⟨e, he, _⟩ => (by cases he)⟩, Nat.le_refl _⟩, h3, h4⟩
where
 up_id {f : FuncId} {vs : List AV} {S : AS} {Q : AV → AS → Prop} (h : CallW C1 f vs S Q) : CallW C1 f vs S Q := h
theorem add_live {n : Nat} {key : List Nat} {u : AV} {atts : List Att} (h : Live S X st K) (hu : AttsAt S u atts) (hux : ∀ id, bnd u = id + 1 → ¬ X.wf id) (hk : K + 100 ≤ 1048576) :
  CallW C1 9 [.ptr X.x 0 0 2, .int .u64 (n : Int), .agg [.str key, u]] S fun r T => ∃ X', Live T X' (addS st n (key, atts)) (K + 9) ∧ Step S T X X' ∧ X'.x = X.x ∧ r = .int .i64 (addE st n (key, atts)) := by
 refine (add9 h.ix h.ne hu hux (by have := h.k; omega)).mono ?_
 rintro r T ⟨X', g1, g2, g3, g4, g5, g6⟩
 have hk' := h.k
 have hsome : (st n).isSome = true ↔ ∃ e, e ∈ X.evs ∧ e.n = n := by
  cases hst : st n with
  | none =>
   refine ⟨fun h => (by cases h), fun ⟨e, he, hn⟩ => ?_⟩
   have := (h.reps n (e.key, e.atts)).2 ⟨e, he, hn, rfl⟩
   rw [hst] at this; cases this
  | some v =>
   obtain ⟨e, he, hn, _⟩ := (h.reps n v).1 hst
   exact ⟨fun _ => ⟨e, he, hn⟩, fun _ => rfl⟩
 rcases g6 with ⟨h1, rfl, h3⟩ | ⟨h1, h2, rfl, h3⟩ | ⟨h1, h2, rfl, u', h3⟩
 ·have he : addE st n (key, atts) = 30 := by unfold addE mayD; rw [if_pos h1]
  refine ⟨X', ⟨g1, g2, fun e he => h.may e (by rw [← h3]; exact he), fun m v => ?_, by omega⟩, g3, g4, by rw [he]⟩
  unfold addS
  rw [if_neg (by rw [he]; decide), h3]; exact h.reps m v
 ·have he : addE st n (key, atts) = 9 := by unfold addE mayD; rw [if_neg (by rw [h1]; decide), if_pos (hsome.2 h2)]
  refine ⟨X', ⟨g1, g2, fun e he => h.may e (by rw [← h3]; exact he), fun m v => ?_, by omega⟩, g3, g4, by rw [he]⟩
  unfold addS
  rw [if_neg (by rw [he]; decide), h3]; exact h.reps m v
 ·have hno : ¬ (st n).isSome = true := fun hh => by
   obtain ⟨e, he, hn⟩ := hsome.1 hh
   exact h2 e he hn
  have he : addE st n (key, atts) = 0 := by unfold addE mayD; rw [if_neg (by rw [h1]; decide), if_neg hno]
  refine ⟨X', ⟨g1, g2, fun e he => ?_, fun m v => ?_, by omega⟩, g3, g4, by rw [he]⟩
  ·rw [h3] at he
   rcases List.mem_append.1 he with he | he
   ·exact h.may e he
   ·simp at he; subst he; exact h1
  ·unfold addS
   rw [if_pos he, h3]
   unfold updE
   by_cases hm : m = n
   ·subst hm
    rw [if_pos rfl]
    constructor
    ·intro hv
     cases hv
     exact ⟨_, List.mem_append.2 (.inr (List.mem_singleton.2 rfl)), rfl, rfl⟩
    ·rintro ⟨e, he, hn, hv⟩
     rcases List.mem_append.1 he with he | he
     ·exact absurd hn (h2 e he)
     ·simp at he; subst he
      rw [← hv]
   ·rw [if_neg hm, h.reps m v]
    constructor
    ·rintro ⟨e, he, hn, hv⟩
     exact ⟨e, List.mem_append.2 (.inl he), hn, hv⟩
    ·rintro ⟨e, he, hn, hv⟩
     rcases List.mem_append.1 he with he | he
     ·exact ⟨e, he, hn, hv⟩
     ·simp at he; subst he
      exact absurd hn (fun e => hm e.symm)
theorem query_live {p : AV} {cs : List Con} (h : Live S X st K) (hp : PredAt S p cs) (hk : K ≤ 1048576) : CallW C1 12 [.ptr X.x 0 0 2, p] S fun r T => Sub S T ∧ ToldS T st cs r := by
 have hk' := h.k
 refine (query12 h.ix h.may hp (by omega)).mono ?_
 rintro r T ⟨h1, h2⟩
 refine ⟨h1, ?_⟩
 rcases h2 with ⟨h2, h3⟩ | ⟨h2, v, l, h3, h4, h5, h6, h7⟩
 ·exact .inl ⟨h2, h3⟩
 ·refine .inr ⟨h2, v, l, h3, h4, h5, by omega, fun n => ?_⟩
  rw [h7 n]
  constructor
  ·rintro ⟨e, he, hn, hm⟩
   exact ⟨(e.key, e.atts), (h.reps n _).2 ⟨e, he, hn, rfl⟩, hm⟩
  ·rintro ⟨w, hw, hm⟩
   obtain ⟨e, he, hn, rfl⟩ := (h.reps n w).1 hw
   exact ⟨e, he, hn, hm⟩
end
def saH (S : AS) (u v : AV) (l m : List Nat) (k : Nat) (F' : Fr) (S' : AS) : Prop :=
 S' = S ∧ ∃ i : Nat, sl F' 0 = u ∧ sl F' 1 = v ∧ sl F' 5 = .int .i64 (i : Int) ∧ i ≤ l.length ∧ l.take i = m.take i ∧ k = l.length - i ∧ F'.n = 26
theorem numL_get {l : List Nat} {i : Nat} {x : Nat} (h : l[i]? = some x) : (numL l)[i]? = some (.int .u64 (x : Int)) := by unfold numL; rw [List.getElem?_map, h]; rfl
end Go.Proofs.YtfempihpphbgmaaGreat.idx
namespace Go.Proofs.YtfempihpphbgmaaGreat.idx
open Go Go.Am Go.Proofs.YtfempihpphbgmaaGreat.mod
set_option linter.unusedVariables false
set_option linter.unusedSimpArgs false
noncomputable def flT (cx : Am.Cx) (t : TypeId) : Option (List TypeId) := match und cx t with | some (.struct fs) => some (fs.toList.map (·.type)) | _ => none
structure Facts (cx : Am.Cx) : Prop where
 un3 : und cx 3 = some (.int .i64)
 un2 : und cx 2 = some (.int .i64)
 un4 : und cx 4 = some .bool
 un9 : und cx 9 = some .string
 un30 : und cx 30 = some (.int .u64)
 un36 : und cx 36 = some (.int .u16)
 fl50 : flT cx 50 = some [3, 2, 9, 4]
 fl65 : flT cx 65 = some [9, 50]
 fl54 : flT cx 54 = some [9, 3, 50, 51]
 fl33 : flT cx 33 = some [9, 31]
 un25 : und cx 25 = some (.slice 54)
 un22 : und cx 22 = some (.slice 33)
 un23 : und cx 23 = some (.slice 36)
 un51 : und cx 51 = some (.slice 50)
 un31 : und cx 31 = some (.slice 65)
 sz50 : szOf cx 50 = some 4
 sz54 : szOf cx 54 = some 7
 sz65 : szOf cx 65 = some 5
 sz33 : szOf cx 33 = some 2
 sz36 : szOf cx 36 = some 1
 by65 : bytesOf cx 65 = some 56
 ag22 : aggOf cx 22 = some false
 ag23 : aggOf cx 23 = some false
 ag25 : aggOf cx 25 = some false
 ag33 : aggOf cx 33 = some true
 ag50 : aggOf cx 50 = some true
 ag9 : aggOf cx 9 = some false
theorem facts1 : Facts C1 := ⟨by kernel_rfl, by kernel_rfl, by kernel_rfl, by kernel_rfl, by kernel_rfl, by kernel_rfl, by kernel_rfl, by kernel_rfl, by kernel_rfl, by kernel_rfl, by kernel_rfl, by kernel_rfl, by kernel_rfl, by kernel_rfl, by kernel_rfl, by kernel_rfl, by kernel_rfl, by kernel_rfl, by kernel_rfl, by kernel_rfl, by kernel_rfl, by kernel_rfl, by kernel_rfl, by kernel_rfl, by kernel_rfl, by kernel_rfl, by kernel_rfl⟩
section
variable {cx : Am.Cx}
theorem rec_of {S : AS} {m : Nat} {t : TypeId} {l : List TypeId} {x : List AV} (h : flT cx t = some l) (hx : typedA cx S (m + 1) t x) : fieldsA (szOf cx) (typedA cx S m) l x := by
 unfold flT at h
 split at h
 ·rename_i fs hu
  cases h
  unfold typedA at hx
  simp only [hu] at hx
  exact hx
 ·cases h
theorem chunks {α : Type} {sz : Nat} {enc : α → List AV} {G : α → Prop} : ∀ (k : Nat) (cells : List AV), cells.length = k * sz → (∀ i, i < k → ∃ a, (cells.drop (i * sz)).take sz = enc a ∧ G a) → ∃ l : List α, l.length = k ∧ cells = l.flatMap enc ∧ ∀ a, a ∈ l → G a
 | 0, cells, h, _ => by
  rw [Nat.zero_mul] at h
  exact ⟨[], rfl, by rw [List.length_eq_zero_iff.1 h]; rfl, fun a ha => by cases ha⟩
 | k + 1, cells, h, hc => by
  obtain ⟨a, e, g⟩ := hc 0 (by omega)
  rw [Nat.succ_mul] at h
  obtain ⟨l, h1, h2, h3⟩ := chunks (sz := sz) (enc := enc) (G := G) k (cells.drop sz) (by rw [List.length_drop]; omega) (fun i hi => by
   obtain ⟨b, e, g⟩ := hc (i + 1) (by omega)
   refine ⟨b, ?_, g⟩
   rw [← e, List.drop_drop]
   congr 2
   rw [Nat.succ_mul, Nat.add_comm])
  refine ⟨a :: l, by rw [List.length_cons, h1], ?_, fun b hb => ?_⟩
  ·rw [List.flatMap_cons, ← h2, ← e, Nat.zero_mul, List.drop_zero, List.take_append_drop]
  ·rcases List.mem_cons.1 hb with rfl | hb
   ·exact g
   ·exact h3 b hb
theorem sl_of {S : AS} {m : Nat} {t e sz : Nat} {avs : List AV} (hu : und cx t = some (.slice e)) (hs : szOf cx e = some sz) (h : typedA cx S (m + 1) t avs) {α : Type} {enc : α → List AV} {G : α → Prop} (hz : ∀ a, (enc a).length = sz)
  (hel : ∀ x, typedA cx S m e x → ∃ a, x = enc a ∧ G a) : ∃ (u : AV) (l : List α), avs = [u] ∧ Sl S u sz (l.flatMap enc) ∧ (∀ a, a ∈ l → G a) ∧ l.length ≤ maxLen ∧ ∀ bs, bytesOf cx e = some bs → l.length * bs ≤ reachBytes := by
 unfold typedA at h
 simp only [hu] at h
 rcases h with rfl | ⟨id, len, cap, sz', rfl, h1, h2, h3, h4, hb, h5, h6⟩
 ·exact ⟨_, [], rfl, Sl.nil, fun a ha => (by cases ha), by simp, fun bs _ => by simp⟩
 ·rw [hs] at h1
  cases h1
  rcases h6 with rfl | ⟨cells, ty, g1, g2, g3⟩
  ·obtain rfl : len = 0 := by omega
   exact ⟨_, [], rfl, ⟨by simp [isSl, capB], rfl, by simp [sLen], h5⟩, fun a ha => (by cases ha), by simp, fun bs _ => by simp⟩
  ·obtain ⟨l, k1, k2, k3⟩ := chunks cap cells g2 fun i hi => hel _ (g3 i hi)
   subst k2
   refine ⟨_, l.take len, rfl, ⟨by simp [isSl, capB, h3], ?_, by rw [fm_len hz, List.length_take]; simp only [sLen]; congr 1; omega, h5⟩, fun a ha => k3 a (List.mem_of_mem_take ha), by rw [List.length_take]; omega, fun bs hbs => Nat.le_trans (Nat.mul_le_mul_right _ (by rw [List.length_take]; omega)) (hb bs hbs)⟩
   cases len with
   | zero => simp [rdS]
   | succ len =>
    simp only [rdS, rd_at, g1, rdO_row]
    rw [if_pos ⟨Nat.le_refl _, Nat.le_refl _, by rw [Nat.zero_add]; exact Nat.mul_le_mul_right _ h3⟩, List.drop_zero, fm_take hz]
theorem int_of {S : AS} {m : Nat} {t : TypeId} {avs : List AV} (hu : und cx t = some (.int .i64)) (h : typedA cx S (m + 1) t avs) : ∃ n : Int, avs = [.int .i64 n] := by
 unfold typedA at h
 simp only [hu] at h
 obtain ⟨n, e, _, _⟩ := h
 exact ⟨n, e⟩
theorem str_of {S : AS} {m : Nat} {t : TypeId} {avs : List AV} (hu : und cx t = some .string) (h : typedA cx S (m + 1) t avs) : ∃ s : List Nat, avs = [.str s] := by
 unfold typedA at h
 simp only [hu] at h
 obtain ⟨s, e, _⟩ := h
 exact ⟨s, e⟩
theorem bool_of {S : AS} {m : Nat} {t : TypeId} {avs : List AV} (hu : und cx t = some .bool) (h : typedA cx S (m + 1) t avs) : ∃ b : Bool, avs = [.bool b] := by
 unfold typedA at h
 simp only [hu] at h
 exact h
theorem val_of (K : Facts cx) {S : AS} {m : Nat} {x : List AV} (h : typedA cx S (m + 2) 50 x) : ∃ v : Val, x = encV v := by
 obtain ⟨a, _, rfl, _, h1, b, _, rfl, _, h2, c, _, rfl, _, h3, d, _, rfl, _, h4, rfl⟩ := rec_of K.fl50 h
 obtain ⟨k, rfl⟩ := int_of K.un3 h1
 obtain ⟨n, rfl⟩ := int_of K.un2 h2
 obtain ⟨s, rfl⟩ := str_of K.un9 h3
 obtain ⟨b, rfl⟩ := bool_of K.un4 h4
 exact ⟨⟨k, n, s, b⟩, rfl⟩
theorem att_of (K : Facts cx) {S : AS} {m : Nat} {x : List AV} (h : typedA cx S (m + 3) 65 x) : ∃ a : Att, x = encA a := by
 obtain ⟨a, _, rfl, _, h1, b, _, rfl, _, h2, rfl⟩ := rec_of K.fl65 h
 obtain ⟨s, rfl⟩ := str_of K.un9 h1
 obtain ⟨v, rfl⟩ := val_of K h2
 exact ⟨⟨s, v⟩, by simp [encA]⟩
theorem ev_of (K : Facts cx) {S : AS} {m : Nat} {x : List AV} (h : typedA cx S (m + 5) 33 x) : ∃ (s : List Nat) (u : AV) (l : List Att), x = [.str s, u] ∧ AttsAt S u l := by
 obtain ⟨a, _, rfl, _, h1, b, _, rfl, _, h2, rfl⟩ := rec_of K.fl33 h
 obtain ⟨s, rfl⟩ := str_of K.un9 h1
 obtain ⟨u, l, rfl, g1, _, _, g2⟩ := sl_of (G := fun _ => True) K.un31 K.sz65 h2 encA_len (fun x hx => by obtain ⟨v, e⟩ := att_of K hx; exact ⟨v, e, trivial⟩)
 have hb := g2 56 K.by65
 refine ⟨s, u, l, rfl, g1, ?_⟩
 have : reachBytes = 140737488351232 := rfl
 omega
structure EvA where
 key : List Nat
 u : AV
 atts : List Att
def encEA (e : EvA) : List AV := [.str e.key, e.u]
theorem encEA_len (e : EvA) : (encEA e).length = 2 := rfl
theorem evs_of (K : Facts cx) {S : AS} {m : Nat} {x : List AV} (h : typedA cx S (m + 6) 22 x) : ∃ (u : AV) (l : List EvA), x = [u] ∧ Sl S u 2 (l.flatMap encEA) ∧ (∀ e, e ∈ l → AttsAt S e.u e.atts) ∧ l.length ≤ maxLen := by
 obtain ⟨u, l, rfl, g1, g2, g3, _⟩ := sl_of (enc := encEA) (G := fun e : EvA => AttsAt S e.u e.atts) K.un22 K.sz33 h encEA_len (fun x hx => by
  obtain ⟨s, u, l, rfl, g⟩ := ev_of K hx
  exact ⟨⟨s, u, l⟩, rfl, g⟩)
 exact ⟨u, l, rfl, g1, g2, g3⟩
def enc16 (n : Nat) : List AV := [.int .u16 (n : Int)]
end
end Go.Proofs.YtfempihpphbgmaaGreat.idx
namespace Go.Proofs.YtfempihpphbgmaaGreat.ready
open Go Go.Am Go.ChangeShapes Go.WideShapes Go.ChangeAt Go.RowKit
set_option linter.unusedVariables false
set_option linter.unusedSimpArgs false
noncomputable abbrev P : Program := Tryz.prog
theorem own : ownKnob P.godebug = none := by kernel_rfl
theorem names : P.funcs.toList.all (fun fn => !(fn.name == "runtime.NumGoroutine")) = true := by kernel_rfl
theorem stood50 : P.stoodInHeld 50 = false ∧ P.eqGuardType P.depth 50 = false := ⟨by kernel_rfl, by kernel_rfl⟩
theorem stood65 : P.stoodInHeld 65 = false ∧ P.eqGuardType P.depth 65 = false := ⟨by kernel_rfl, by kernel_rfl⟩
theorem fields50 : (P.fieldsOf 50).toList.all (fun f => !(f.name == "_")) = true := by kernel_rfl
theorem fields65 : (P.fieldsOf 65).toList.all (fun f => !(f.name == "_")) = true := by kernel_rfl
theorem ext132 (a b : ByteArray) (w : World) : (callFunc 132 #[.string a, .string b]).run P w = .ok (.value (.int .i64 (Lib.compareBytes a.data.toList b.data.toList))) w := by
 have h : (callFunc 132 #[.string a, .string b]).run P w = ((do pure (.value (← Extern.BytealgCompare.compare #[.string a, .string b])) : Sem Next)).run P w := by kernel_rfl
 rw [h]
 simp only [Sem.run_bind, Lib.run_compareString, Result.andThen_ok, Sem.run_pure]
theorem size80 (w : World) : (Go.sizeOf 80).run P w = .ok 5 w := by kernel_rfl
theorem ext57 (args : Array Value) (w : World) : (callFunc 57 args).run P w = ((Extern.SlicesOverlaps.overlaps #[78, 78] #[4] args).run P w).andThen fun v w' => .ok (.value v) w' := by
 have h : (callFunc 57 args).run P w = ((do pure (.value (← Extern.SlicesOverlaps.overlaps #[78, 78] #[4] args)) : Sem Next)).run P w := by kernel_rfl
 rw [h]
 simp only [Sem.run_bind, Sem.run_pure]
theorem ready (A : Am.Ask) (h1 : ∀ t, t ∈ A.eqs → t = 50 ∨ t = 65) (h2 : ∀ x, x ∈ A.exts → x = (57, .apart) ∨ x = (132, .cmpstr)) : Am.Ready P A := by
 refine ⟨by kernel_rfl, fun t h => ?_, Am.enters_ok names, fun x h => ?_⟩
 ·rcases h1 t h with rfl | rfl
  ·refine ⟨stood50.1, stood50.2, fun f hf => ?_⟩
   have := List.all_eq_true.1 fields50 f hf
   simpa using this
  ·refine ⟨stood65.1, stood65.2, fun f hf => ?_⟩
   have := List.all_eq_true.1 fields65 f hf
   simpa using this
 ·rcases h2 x h with rfl | rfl
  ·exact ⟨78, 4, 80, 5, by kernel_rfl, size80, ext57⟩
  ·intro a b w
   rw [← cmp_bytes]
   exact ext132 a b w
theorem ready8 : Am.Ready P ins.A8 := ready _ (fun t h => by cases h) (fun x h => by
 simp only [ins.A8, List.mem_cons, List.not_mem_nil, or_false] at h
 exact .inl h)
noncomputable def N0 : Am.Ask := { eqs := [50, 65], exts := [(57, .apart), (132, .cmpstr)], prims := [(31, ins.q31), (34, ins.q34)], pures := [46] }
theorem readyN : Am.Ready P N0 := ready _ (fun t h => by
 simp only [N0, List.mem_cons, List.not_mem_nil, or_false] at h
 exact h) (fun x h => by
 simp only [N0, List.mem_cons, List.not_mem_nil, or_false] at h
 exact h)
theorem primsN (Λ : LB) : ∀ x, x ∈ N0.prims → PrimOk Λ Tryz.prog x.1 x.2 := by
 intro x hx
 simp only [N0, List.mem_cons, List.not_mem_nil, or_false] at hx
 rcases hx with rfl | rfl
 ·exact ins.prim31 ready8
 ·exact ins.prim34 ready8
theorem answer : true = Am.saysK Tryz.prog N0 1000000 14 true := by kernel_rfl
theorem awake (W : World) : Calls Tryz.prog 14 #[] W fun e w' => e = .returned (.bool true) ∧ Below W.heap.size W w' :=
 Am.call_fast0 readyN primsN rfl 1000000 14 true answer W
end Go.Proofs.YtfempihpphbgmaaGreat.ready
namespace Go.Proofs.YtfempihpphbgmaaGreat.ready
open Go Go.Am Go.ChangeShapes Go.WideShapes Go.ChangeAt Go.RowKit Go.Proofs.YtfempihpphbgmaaGreat.idx
set_option linter.unusedVariables false
set_option linter.unusedSimpArgs false
theorem readyA1 : Am.Ready P A1 := ready _ (fun t h => by
 simp only [A1, List.mem_cons, List.not_mem_nil, or_false] at h
 exact h) (fun x h => by
 simp only [A1, List.mem_cons, List.not_mem_nil, or_false] at h
 exact .inr h)
theorem readyAs : Am.Ready P As := ready _ (fun t h => by
 simp only [As, List.mem_cons, List.not_mem_nil, or_false] at h
 exact h) (fun x h => by
 simp only [As, List.mem_cons, List.not_mem_nil, or_false] at h
 exact .inr h)
theorem primsAs (Λ : LB) : ∀ x, x ∈ As.prims → PrimOk Λ Tryz.prog x.1 x.2 := by
 intro x hx
 simp only [As, List.mem_cons, List.not_mem_nil, or_false] at hx
 subst hx
 exact Am.boolQ_ok Tryz.func14 rfl awake
theorem primsA1 (Λ : LB) : ∀ x, x ∈ A1.prims → PrimOk Λ Tryz.prog x.1 x.2 := by
 intro x hx
 simp only [A1, List.mem_cons, List.not_mem_nil, or_false] at hx
 rcases hx with rfl | rfl | rfl | rfl
 ·exact Am.boolQ_ok Tryz.func14 rfl awake
 ·exact ins.prim31 ready8
 ·exact ins.prim34 ready8
 ·exact prim46 readyAs (primsAs Λ) (fun x hx => by cases hx)
end Go.Proofs.YtfempihpphbgmaaGreat.ready
namespace Go.Proofs.YtfempihpphbgmaaGreat.idx
open Go Go.Am Go.Proofs.YtfempihpphbgmaaGreat.mod
set_option linter.unusedVariables false
set_option linter.unusedSimpArgs false
@[simp] theorem o_st22 : slT C1 22 = some (33, 2, 40) := by kernel_rfl
@[simp] theorem o_cv3_30 : convT C1 3 30 = some .u64 := by kernel_rfl
@[simp] theorem o_st35 : slT C1 35 = some (4, 1, 1) := by kernel_rfl
@[simp] theorem o_st23 : slT C1 23 = some (36, 1, 2) := by kernel_rfl
@[simp] theorem o_ag36 : aggOf C1 36 = some false := by kernel_rfl
@[simp] theorem o_sz36 : szOf C1 36 = some 1 := by kernel_rfl
@[simp] theorem o_cv36_3 : convT C1 36 3 = some .i64 := by kernel_rfl
@[simp] theorem o_ag4 : aggOf C1 4 = some false := by kernel_rfl
@[simp] theorem o_sz4 : szOf C1 4 = some 1 := by kernel_rfl
@[simp] theorem o_un25 : und C1 25 = some (.slice 54) := by kernel_rfl
theorem o_fn5 : C1.fns.get 5 = some Tryz.f5 := by kernel_rfl
theorem o_ok5 : codeOk C1 Tryz.f5.ntmps (Tryz.f5.body.getD .skip) = true := by kernel_rfl
@[simp] theorem o_sz26 : szOf C1 26 = some 1 := by kernel_rfl
@[simp] theorem o_ze26 : zeroOf C1 26 = some (.nilp) := by kernel_rfl
@[simp] theorem o_ag26 : aggOf C1 26 = some false := by kernel_rfl
@[simp] theorem o_st51 : slT C1 51 = some (50, 4, 40) := by kernel_rfl
@[simp] theorem o_ag51 : aggOf C1 51 = some false := by kernel_rfl
@[simp] theorem o_mk52 : mapK C1 52 = some ((.int .u64), .int .i64 0) := by kernel_rfl
theorem o_fn19 : C1.fns.get 19 = some Tryz.f19 := by kernel_rfl
theorem o_ok19 : codeOk C1 Tryz.f19.ntmps (Tryz.f19.body.getD .skip) = true := by kernel_rfl
@[simp] theorem o_ag25 : aggOf C1 25 = some false := by kernel_rfl
@[simp] theorem o_mt52 : mapT C1 52 = true := by kernel_rfl
theorem unb4 : und C1 4 = some .bool := by kernel_rfl
def EvA.d (e : EvA) : EvD := (e.key, e.atts)
noncomputable def stOf (L : List EvA) (i : Nat) (n : Nat) : Option EvD := if n < i then (match L[n]? with | some e => if mayD e.d then some e.d else none | none => none) else none
theorem stOf_zero (L : List EvA) : stOf L 0 = fun _ => none := by funext n; simp [stOf]
theorem stOf_self (L : List EvA) (i : Nat) : stOf L i i = none := by simp [stOf]
theorem stOf_add {L : List EvA} {i : Nat} {e : EvA} (h : L[i]? = some e) : addE (stOf L i) i e.d = (if mayD e.d = true then 0 else 30) ∧ addS (stOf L i) i e.d = stOf L (i + 1) := by
 have he : addE (stOf L i) i e.d = (if mayD e.d = true then 0 else 30) := by
  unfold addE
  rw [stOf_self]
  cases mayD e.d <;> simp
 refine ⟨he, ?_⟩
 unfold addS
 rw [he]
 funext n
 cases hm : mayD e.d with
 | false =>
  simp
  unfold stOf
  by_cases hn : n = i
  ·subst hn; simp [h, hm]
  ·have : (n < i + 1) = (n < i) := by simp; omega
   simp [this]
 | true =>
  simp
  unfold updE stOf
  by_cases hn : n = i
  ·subst hn; simp [h, hm]
  ·have : (n < i + 1) = (n < i) := by simp; omega
   simp [hn, this]
theorem Step.out {S0 S T : AS} {X X' : XI} (h : Step S T X X') (hs : Sub S0 S) (hf : ∀ id, X.foot id → S0.next ≤ id) : Sub S0 T ∧ ∀ id, X'.foot id → S0.next ≤ id :=
 ⟨⟨fun id hid => by
  rw [h.keep.h id (Nat.lt_of_lt_of_le hid hs.next) (fun hw => by have := hf id (XI.wf_foot hw); omega)]
  exact hs.h id hid, Nat.le_trans hs.next h.keep.next⟩, fun id hid => (h.foot id hid).elim (hf id) fun h2 => Nat.le_trans hs.next h2⟩
structure Given (S : AS) (u : AV) (L : List EvA) : Prop where
 sl : Sl S u 2 (L.flatMap encEA)
 att : ∀ e, e ∈ L → AttsAt S e.u e.atts
 le : L.length ≤ 60
theorem Given.sub {S T : AS} {u : AV} {L : List EvA} (h : Given S u L) (hs : Sub S T) : Given T u L := ⟨h.sl.toSub hs, fun e he => (h.att e he).sub hs, h.le⟩
def ex1H (S0 : AS) (L : List EvA) (u g p : AV) (x : Nat) (k : Nat) (F' : Fr) (S' : AS) : Prop :=
 ∃ (i : Nat) (X : XI), Sub S0 S' ∧ Live S' X (stOf L i) (9 * i) ∧ X.x = x ∧ (∀ id, X.foot id → S0.next ≤ id) ∧ sl F' 0 = u ∧ sl F' 1 = g ∧ sl F' 2 = p ∧ sl F' 7 = .ptr x 0 0 2 ∧ sl F' 8 = .int .i64 (i : Int) ∧ i ≤ L.length ∧ k = L.length - i ∧ F'.n = 151
noncomputable def stR (L : List EvA) (o : List Bool) (n : Nat) : Option EvD := match L[n]? with | some e => if mayD e.d && !((o[n]?).getD false) then some e.d else none | none => none
def ex2H (S0 : AS) (L : List EvA) (u g p w : AV) (x B : Nat) (gs : List Nat) (k : Nat) (F' : Fr) (S' : AS) : Prop :=
 ∃ (i : Nat) (X : XI) (o : List Bool), Sub S0 S' ∧ Live S' X (stR L o) 600 ∧ X.x = x ∧ (∀ id, X.foot id → S0.next ≤ id ∧ id ≠ B) ∧ o.length = L.length ∧ Gw S' w 1 4 (o.map AV.bool) ∧ bnd w = B + 1 ∧ S0.next ≤ B ∧ sl F' 0 = u ∧ sl F' 1 = g ∧ sl F' 2 = p ∧ sl F' 7 = .ptr x 0 0 2 ∧ sl F' 9 = w ∧ sl F' 10 = .int .i64 (i : Int) ∧ i ≤ gs.length ∧ k = gs.length - i ∧ F'.n = 151
def ex2M (S0 : AS) (L : List EvA) (u p w : AV) (x B : Nat) (F' : Fr) (S' : AS) : Prop :=
 ∃ (X : XI) (o : List Bool), Sub S0 S' ∧ Live S' X (stR L o) 600 ∧ X.x = x ∧ o.length = L.length ∧ Sl S' w 1 (o.map AV.bool) ∧ sl F' 0 = u ∧ sl F' 2 = p ∧ sl F' 7 = .ptr x 0 0 2 ∧ sl F' 9 = w ∧ F'.n = 151
noncomputable def wantN (st : Nat → Option EvD) (cs : List Con) (i : Nat) : List Nat := (List.range i).filter fun n => match st n with | some d => matchB cs d.2 | none => false
def ex3H (S0 : AS) (L : List EvA) (u p w v : AV) (st : Nat → Option EvD) (cs : List Con) (k : Nat) (F' : Fr) (S' : AS) : Prop :=
 ∃ (i : Nat) (z : AV), Sub S0 S' ∧ Own S' S0.next z 1 30 (numL (wantN st cs i)) ∧ sl F' 0 = u ∧ sl F' 2 = p ∧ sl F' 9 = w ∧ sl F' 13 = v ∧ sl F' 15 = z ∧ sl F' 16 = .int .i64 (i : Int) ∧ i ≤ L.length ∧ k = L.length - i ∧ F'.n = 151
theorem x0_foot {n id : Nat} (h : (X0 n).foot id) : n ≤ id := by
 rcases h with h | h | h | ⟨m, hm, _⟩ | ⟨m, hm, _⟩
 ·show n ≤ id; rw [h]; show n ≤ n + 2; omega
 ·rw [h]; exact Nat.le_refl _
 ·rw [h]; show n ≤ n + 1; omega
 ·cases hm
 ·cases hm
section
variable {S : AS}
end
end Go.Proofs.YtfempihpphbgmaaGreat.idx
namespace Go.Proofs.YtfempihpphbgmaaGreat.idx
open Go Go.Am Go.Proofs.YtfempihpphbgmaaGreat.mod
set_option linter.unusedVariables false
set_option linter.unusedSimpArgs false
theorem bld54 {S : AS} {u : AV} {cs : List AV} {s : List Nat} {o k n : Int} {x : List Nat} {b : Bool} (h : Sl S u 4 cs) : buildA C1 54 [(0, .str s), (1, .int .i64 o), (2, .agg [.int .i64 k, .int .i64 n, .str x, .bool b]), (3, u)] = some (.agg [.str s, .int .i64 o, .int .i64 k, .int .i64 n, .str x, .bool b, u]) := by
 rcases h.cases with rfl | ⟨_, _, _, _, _, _, rfl⟩ <;> kernel_rfl
def AskAt (T : AS) (st : Nat → Option EvD) (c : Con) (r : AV) : Prop :=
 (mayP [c] = false ∧ r = .nilm) ∨ (mayP [c] = true ∧ ∃ (id : Nat) (l : List Nat), r = .map id ∧ Mp T (.map id) (fun n : Nat => AV.int .u64 (n : Int)) (l.map fun n => (n, AV.int .i64 1)) ∧ l.Pairwise (· < ·) ∧ ∀ n, n ∈ l ↔ ∃ v, st n = some v ∧ matchB [c] v.2 = true)
theorem Mp.toSub {κ : Type} {S T : AS} {x : AV} {enc : κ → AV} {m : List (κ × AV)} (h : Mp S x enc m) (hs : Sub S T) : Mp T x enc m := by
 obtain ⟨id, es, clock, rfl, h1, h2, h3⟩ := h
 exact ⟨id, es, clock, rfl, Nat.lt_of_lt_of_le h1 hs.next, by rw [hs.h id h1]; exact h2, h3⟩
theorem AskAt.sub {S T : AS} {st : Nat → Option EvD} {c : Con} {r : AV} (h : AskAt S st c r) (hs : Sub S T) : AskAt T st c r := by
 rcases h with h | ⟨h, id, l, h1, h2, h3⟩
 ·exact .inl h
 ·exact .inr ⟨h, id, l, h1, Mp.toSub h2 hs, h3⟩
theorem mput_new {l : List Nat} {n : Nat} {v : AV} (h : n ∉ l) : mput (l.map fun n => (n, v)) n v = (l ++ [n]).map fun n => (n, v) := by
 induction l with
 | nil => rfl
 | cons a l ih =>
  have h1 : ¬ n = a := fun e => h (by rw [e]; exact List.mem_cons_self ..)
  simp only [List.map_cons, List.cons_append]
  rw [mput, if_neg h1, ih fun hh => h (List.mem_cons_of_mem _ hh)]
theorem mget_ones {l : List Nat} {n : Nat} {v : AV} : mget (l.map fun n => (n, v)) n = if n ∈ l then some v else none := by
 induction l with
 | nil => rfl
 | cons a l ih =>
  simp only [List.map_cons]
  rw [mget, ih]
  by_cases h : n = a
  ·simp [h]
  ·simp [h]
def akH (S0 T : AS) (v : AV) (l : List Nat) (code : Int) (k : Nat) (F' : Fr) (S' : AS) : Prop :=
 ∃ i : Nat, Sub T S' ∧ Mp S' (.map T.next) (fun n : Nat => AV.int .u64 (n : Int)) ((l.take i).map fun n => (n, AV.int .i64 1)) ∧ sl F' 8 = .nilm ∧ sl F' 9 = v ∧ sl F' 10 = .int .i64 code ∧ sl F' 11 = .map T.next ∧ sl F' 12 = .int .i64 (i : Int) ∧ i ≤ l.length ∧ k = l.length - i ∧ F'.n = 39
theorem nt19 : Tryz.f19.ntmps = 39 := by kernel_rfl
section
variable {S : AS} {X : XI} {st : Nat → Option EvD} {K : Nat}
set_option maxRecDepth 20000 in
set_option maxHeartbeats 2000000 in
theorem ask19 {b1 b2 : Nat} {s : List Nat} {o : Int} {v : Val} {u : AV} {vals : List Val} (h : Live S X st K) (hk : K ≤ 1048576) (g1 : S.h.get b1 = some (.row [.ptr X.x 0 0 2] 0 0 false 26)) (g2 : S.h.get b2 = some (.row [.str s] 0 0 false 9)) (l1 : b1 < S.next) (l2 : b2 < S.next)
  (hu : Sl S u 4 (vals.flatMap encV)) (hul : vals.length ≤ 9223372036854775807) :
  CallW C1 19 [.int .i64 o, .agg (encV v), u, .ptr b1 0 0 1, .ptr b2 0 0 1] S fun r T => Sub S T ∧ AskAt T st ⟨s, o, v, u, vals⟩ r := by
 obtain ⟨M, hM⟩ : ∃ M : AS, M = ⟨(S.h.set S.next (.row (encV v) 0 0 false 50)).set (S.next + 1) (.row (encC ⟨s, o, v, u, vals⟩) 0 0 false 54), S.next + 2⟩ := ⟨_, rfl⟩
 have hSM : Sub S M := by rw [hM]; exact sub2
 have gM : M.h.get (S.next + 1) = some (.row (encC ⟨s, o, v, u, vals⟩) 0 0 false 54) := by rw [hM]; exact get_set_same _ _ _
 have hMn : M.next = S.next + 2 := by rw [hM]
 have hPA : PredAt M (.slice (S.next + 1) 0 0 1 7 7 (some 1)) [⟨s, o, v, u, vals⟩] := by
  refine ⟨⟨by simp [isSl, capB], ?_, by simp [encC, sLen], by simp only [bnd]; omega⟩, fun c hc => ?_, by simp⟩
  ·simp only [rdS, rd_at, gM, rdO_row]
   rw [if_pos ⟨Nat.le_refl _, Nat.le_refl _, by omega⟩]
   simp [encC]
  ·simp at hc; subst hc; exact ⟨hu.toSub hSM, hul⟩
 obtain ⟨r, T, ⟨hT, ht⟩, e1⟩ := (query_live (h.sub hSM) hPA hk).ex
 have hST := hSM.trans hT
 have uc := hu.cells
 have uo := okW_sl hu
 have hfr : ∀ (F : Fr) (id : Nat), sl F 19 = .agg (encC ⟨s, o, v, u, vals⟩) → freshV C1 F id (.buildSlice 25 1 #[(0, .tmp 19)]) = some (.slice id 0 0 1 7 7 (some 1), .row (encC ⟨s, o, v, u, vals⟩) 0 0 false 54) := fun F id hF => by
  have := freshV_els (cx := C1) (F := F) (t := 25) (id := id) (n := 1) (a := #[(0, .tmp 19)]) [encC ⟨s, o, v, u, vals⟩] o_st25 rfl (by simp [eval_tmp, hF, cellsOf]) (by simp [encC]) (by decide)
  simpa using this
 obtain ⟨code, w, l, rfl, hw, hl, hlen, hc⟩ : ∃ (code : Int) (w : AV) (l : List Nat), r = .tuple [w, .int .i64 code] ∧ Sl T w 1 (numL l) ∧ l.Pairwise (· < ·) ∧ l.length ≤ 1048576 ∧ ((code ≠ 0 ∧ mayP [⟨s, o, v, u, vals⟩] = false) ∨ (code = 0 ∧ mayP [⟨s, o, v, u, vals⟩] = true ∧ ∀ n, n ∈ l ↔ ∃ x, st n = some x ∧ matchB [⟨s, o, v, u, vals⟩] x.2 = true)) := by
  rcases ht with ⟨hm, hr⟩ | ⟨hm, w, l, hr, g3, g4, g5, g6⟩
  ·exact ⟨30, .nils, [], hr, Sl.nil, List.Pairwise.nil, by simp, .inl ⟨by decide, hm⟩⟩
  ·exact ⟨0, w, l, hr, g3, g4, g5, .inr ⟨rfl, hm, g6⟩⟩
 refine enterW (pu1 _) (pr1 _ rfl) o_fn19 rfl o_ok19 (by simp) fun F hn hs => ?_
 rw [nt19] at hn
 have s0 := hs 0
 have s1 := hs 1
 have s2 := hs 2
 have s3 := hs 3
 have s4 := hs 4
 clear hs
 simp only [List.getElem?_cons_zero, List.getElem?_cons_succ, Option.getD_some, encV] at s0 s1 s2 s3 s4
 simp only [encC, encV] at hM hfr
 have wnp := hw.np
 have wcl := hw.cells
 have wsl := hw.sl
 have wln := hw.len1
 rw [numL_len] at wln
 have wok := okW_sl hw
 simp [s0, s1, s2, s3, s4, g1, g2, ne_lt l1, ne_lt l2, bld54 hu, uc, uo, hfr, ← hM, ex1, e1]
 have hMp0 : Mp (⟨T.h.set T.next (.map [] 0), T.next + 1⟩ : AS) (.map T.next) (fun n : Nat => AV.int .u64 (n : Int)) (([] : List Nat).map fun n => (n, AV.int .i64 1)) := ⟨T.next, [], 0, rfl, Nat.lt_succ_self _, get_set_same _ _ _, rfl⟩
 refine loopP_of (akH S T w l code) l.length ⟨0, sub1, by simpa using hMp0, by simp, by simp, by simp, by simp, by simp, Nat.zero_le _, rfl, by simp [hn]⟩ ?_
 clear s0 s1 s2 s3 s4 hn e1 hfr
 rintro k F' S' hn' ⟨i, q1, q2, t8, t9, t10, t11, t12, hi, hk', hn⟩
 clear hn'
 by_cases hi' : i < l.length
 ·have hx : l[i]? = some l[i] := List.getElem?_eq_getElem hi'
  have hlo := loadT_sl (cx := C1) (e := 30) (hw.toSub q1) (numL_get hx) o_ag30
  have htk : l.take (i + 1) = l.take i ++ [l[i]] := List.take_succ_eq_append_getElem hi'
  have hni : l[i] ∉ l.take i := fun hm => by
   obtain ⟨j, hj, e⟩ := List.mem_take_iff_getElem.1 hm
   have := List.pairwise_iff_getElem.1 hl j i (by omega) hi' (by omega)
   omega
  generalize l[i] = x at hx hlo htk hni
  obtain ⟨T', a1, a2, a3, a4⟩ := update_mp (cx := C1) (t := 52) (v := .int .i64 1) (k := x) o_mk52 keyNum q2
  rw [mput_new hni, ← htk] at a2
  have w12 := wrap_succ (show i < 9223372036854775807 by omega)
  have hTT : Sub T T' := ⟨fun id hid => (a3 id (by simp only [bnd]; omega)).trans (q1.h id hid), by rw [a4]; exact q1.next⟩
  simp [t8, t9, t10, t11, t12, wsl, wln, hi', hlo, a1]
  exact ⟨l.length - (i + 1), by omega, i + 1, hTT, a2, by simp [t8], by simp [t9], by simp [t10], by simp [t11], by simp [w12, -Int.natCast_add], hi', rfl, by simp [hn]⟩
 ·obtain rfl : i = l.length := by omega
  rw [List.take_length] at q2
  rcases hc with ⟨h1, h2⟩ | ⟨h1, h2, h3⟩
  ·simp [t8, t9, t10, t11, t12, wsl, wln, h1]
   exact ⟨hST.trans q1, .inl ⟨h2, rfl⟩⟩
  ·simp [t8, t9, t10, t11, t12, wsl, wln, h1]
   exact ⟨hST.trans q1, .inr ⟨h2, T.next, l, rfl, q2, hl, h3⟩⟩
end
end Go.Proofs.YtfempihpphbgmaaGreat.idx
namespace Go.Proofs.YtfempihpphbgmaaGreat.idx
open Go Go.Am Go.Proofs.YtfempihpphbgmaaGreat.mod
set_option linter.unusedVariables false
set_option linter.unusedSimpArgs false
theorem getA_some {l : List Att} {s : List Nat} : (getA l s).isSome = true ↔ ∃ v, (⟨s, v⟩ : Att) ∈ l := by
 unfold getA
 constructor
 ·intro h
  cases hf : l.find? fun a => eqS a.name s with
  | none => rw [hf] at h; cases h
  | some a =>
   have h1 := List.find?_some hf
   rw [eqS_eq] at h1
   refine ⟨a.val, ?_⟩
   have : (⟨s, a.val⟩ : Att) = a := by rw [← (of_decide_eq_true h1)]
   rw [this]; exact List.mem_of_find?_eq_some hf
 ·rintro ⟨v, hv⟩
  cases hf : l.find? fun a => eqS a.name s with
  | none =>
   have := List.find?_eq_none.1 hf _ hv
   simp [eqS_eq] at this
  | some a => rfl
theorem entries_live {S : AS} {X : XI} {st : Nat → Option EvD} {K : Nat} (h : Live S X st K) (s : List Nat) {l : List Nat} (hl : l.Nodup) (hm : ∀ n, n ∈ l ↔ ∃ v, st n = some v ∧ (getA v.2 s).isSome = true) :
  CallW C1 18 [.ptr X.x 0 0 2, .str s] S fun v T => T = S ∧ v = .int .i64 (l.length : Int) := by
 have hi := h.ix
 have hnum : ∀ n, n ∈ (entL X s).map Ent.n ↔ n ∈ l := fun n => by
  rw [hm n, List.mem_map]
  constructor
  ·rintro ⟨e, he, rfl⟩
   obtain ⟨ev, h1, h2, h3⟩ := (hi.entM s e).1 he
   exact ⟨(ev.key, ev.atts), (h.reps _ _).2 ⟨ev, h1, h2, rfl⟩, getA_some.2 ⟨_, h3⟩⟩
  ·rintro ⟨v, h1, h2⟩
   obtain ⟨ev, h3, h4, rfl⟩ := (h.reps n v).1 h1
   obtain ⟨x, hx⟩ := getA_some.1 h2
   exact ⟨⟨x, n⟩, (hi.entM s ⟨x, n⟩).2 ⟨ev, h3, h4, hx⟩, rfl⟩
 have hinj : ∀ x y, x ∈ entL X s → y ∈ entL X s → x.n = y.n → x = y := fun x y hx hy hxy => by
  obtain ⟨e, h1, h2, h3⟩ := (hi.entM s x).1 hx
  obtain ⟨e', h4, h5, h6⟩ := (hi.entM s y).1 hy
  have hee : e = e' := Classical.byContradiction fun hq => pw_ne hi.evk h1 h4 hq (by rw [h2, h5, hxy])
  subst hee
  have hml := (evMay_l (h.may e h1)).1
  have hv : (⟨s, x.v⟩ : Att) = ⟨s, y.v⟩ := Classical.byContradiction fun hq => by
   have hr := names_rise hml
   have : e.atts.Pairwise fun a b => a.name ≠ b.name := hr.imp fun {a b} hab e0 => by rw [e0, ltS_irr] at hab; cases hab
   exact pw_ne this h3 h6 hq rfl
  obtain ⟨xv, xn⟩ := x
  obtain ⟨yv, yn⟩ := y
  simp only [Att.mk.injEq, true_and] at hv
  simp only at hxy
  rw [hv, hxy]
 have hnd : (entL X s).Nodup := (hi.entR s).imp fun {a b} hab e0 => by
  rw [e0] at hab
  have := ordE_ord.self b; omega
 have hlen : (entL X s).length = l.length := by
  have hp : ((entL X s).map Ent.n).Perm l := (List.perm_ext_iff_of_nodup (nodup_map hinj hnd) hl).2 hnum
  have := hp.length_eq
  rwa [List.length_map] at this
 refine (entries18 hi s).mono ?_
 rintro v T ⟨rfl, hv⟩
 refine ⟨rfl, ?_⟩
 rcases hv with ⟨m, hm', hn, rfl⟩ | ⟨hno, rfl⟩
 ·rcases hi.ent s with ⟨m', h1, h2, h3, h4⟩ | ⟨_, _, h3, _⟩
  ·have hmm : m = m' := Classical.byContradiction fun hq => pw_ne hi.nmk hm' h1 hq (hn.trans h2.symm)
   rw [hmm, ← h4, hlen]
  ·exact absurd hn (h3 m hm')
 ·have : entL X s = [] := by
   cases he : entL X s with
   | nil => rfl
   | cons a l => exact absurd ((hi.entM s a).1 (by rw [he]; exact List.mem_cons_self ..)) (hno a)
  rw [this] at hlen
  simp at hlen
  rw [← hlen]
  rfl
end Go.Proofs.YtfempihpphbgmaaGreat.idx
namespace Go.Proofs.YtfempihpphbgmaaGreat.idx
open Go Go.Am Go.Proofs.YtfempihpphbgmaaGreat.mod
set_option linter.unusedVariables false
set_option linter.unusedSimpArgs false
theorem nt5 : Tryz.f5.ntmps = 182 := by kernel_rfl
theorem o_un52 : und C1 52 = some (.map 30 3) := by kernel_rfl
theorem eqm52 (c : Bool) (i : Nat) : binV C1 .eql 52 c (.map i) .nilm = some (.bool false) := by kernel_rfl
theorem eqn52 (c : Bool) : binV C1 .eql 52 c .nilm .nilm = some (.bool true) := by kernel_rfl
theorem nem52 (c : Bool) (i : Nat) : binV C1 .neq 52 c (.map i) .nilm = some (.bool true) := by kernel_rfl
theorem nen52 (c : Bool) : binV C1 .neq 52 c .nilm .nilm = some (.bool false) := by kernel_rfl
noncomputable def hitB (st : Nat → Option EvD) (c : Con) (n : Nat) : Bool := match st n with | some d => matchB [c] d.2 | none => false
noncomputable def oneI (b : Bool) : Int := cond b 1 0
theorem lookA {S : AS} {st : Nat → Option EvD} {c : Con} {r : AV} (h : AskAt S st c r) (n : Nat) : lookupV C1 S 52 r (.int .u64 (n : Int)) false = some (.int .i64 (oneI (mayP [c] && hitB st c n))) := by
 rcases h with ⟨h, rfl⟩ | ⟨h, id, l, rfl, h2, _, h4⟩
 ·rw [h, lookup_nil (cx := C1) (k := n) (ok := false) o_mk52 keyNum]; rfl
 ·rw [h, lookup_mp (cx := C1) (k := n) (ok := false) o_mk52 keyNum h2, mget_ones]
  have hm := h4 n
  unfold hitB
  by_cases hn : n ∈ l
  ·obtain ⟨v, h5, h6⟩ := hm.1 hn
   simp [hn, h5, h6, oneI]
  ·rw [if_neg hn]
   cases hs : st n with
   | none => rfl
   | some d =>
    cases hb : matchB [c] d.2 with
    | false => simp [hb, oneI]
    | true => exact absurd (hm.2 ⟨d, hs, hb⟩) hn
theorem lenA {S : AS} {id : Nat} {l : List Nat} {ts : List TypeId} {xs : List AV} (h : Mp S (.map id) (fun n : Nat => AV.int .u64 (n : Int)) (l.map fun n => (n, AV.int .i64 1))) : builtinV C1 S .len (52 :: ts) (.map id :: xs) = .val (.int .i64 (l.length : Int)) S := by
 obtain ⟨id', es, clock, e, h1, h2, h3⟩ := h
 cases e
 have : es.length = l.length := by have := congrArg List.length h3; simpa using this
 simp only [builtinV, lenV, o_un52, h2, forceN_eq]
 rw [this]; rfl
theorem maySame {s : List Nat} {o o' : Int} {v : Val} (h : 2 ≤ o) (h' : o ≤ 7) (k : 2 ≤ o') (k' : o' ≤ 7) : mayP [⟨s, o, v, .nils, []⟩] = mayP [⟨s, o', v, .nils, []⟩] := by
 have h1 : ¬ o = 1 := by omega
 have h2 : ¬ o' = 1 := by omega
 simp [mayP, mayC, h1, h2, h, h', k, k']
theorem mayIn {s : List Nat} {v w : Val} {u : AV} (h : mayP [⟨s, 2, v, .nils, []⟩] = true) (k : mayP [⟨s, 2, w, .nils, []⟩] = true) : mayP [⟨s, 9, zeroV, u, [v, w]⟩] = true := by
 simp [mayP, mayC] at h k ⊢
 have hz : sameB zeroV zeroV = true := by kernel_rfl
 simp [setB, hz, h, k]
end Go.Proofs.YtfempihpphbgmaaGreat.idx
namespace Go.Proofs.YtfempihpphbgmaaGreat.idx
open Go Go.Am Go.Proofs.YtfempihpphbgmaaGreat.mod
set_option linter.unusedVariables false
set_option linter.unusedSimpArgs false
def conN (s : List Nat) (o : Int) (v : Val) : Con := ⟨s, o, v, .nils, []⟩
def Five (h : Int → Bool) (has : Bool) : Prop :=
 ∃ a b c d e f : Bool, has = (a || (b || c || d)) ∧ h 2 = c ∧ h 3 = (b || d) ∧ h 4 = b ∧ h 5 = (b || c) ∧ h 6 = d ∧ h 7 = (c || d) ∧ (b && c) = false ∧ (b && d) = false ∧ (c && d) = false
theorem hit_val {st : Nat → Option EvD} {c : Con} {n : Nat} {d : EvD} {x : Val} (h : st n = some d) (hx : getA d.2 c.name = some x) : hitB st c n = holdsB c x := by
 unfold hitB matchB failB
 rw [h]
 simp [hx]
theorem hit_none {st : Nat → Option EvD} {c : Con} {n : Nat} (h : st n = none) : hitB st c n = false := by
 unfold hitB
 rw [h]
theorem hit_no {st : Nat → Option EvD} {c : Con} {n : Nat} {d : EvD} (h : st n = some d) (hx : getA d.2 c.name = none) : hitB st c n = false := by
 unfold hitB matchB failB
 rw [h]
 simp [hx]
theorem five (st : Nat → Option EvD) (s : List Nat) (v : Val) (n : Nat) : Five (fun o => hitB st (conN s o v) n) (hitB st (conN s 1 zeroV) n) := by
 cases hs : st n with
 | none => exact ⟨false, false, false, false, false, false, by simp [hit_none hs]⟩
 | some d =>
  cases hx : getA d.2 s with
  | none => exact ⟨false, false, false, false, false, false, by simp [hit_no (c := conN s _ _) hs hx]⟩
  | some x =>
   simp only [hit_val (c := conN s _ _) hs hx]
   unfold holdsB conN
   by_cases hk : x.kind = v.kind
   ·rcases Int.lt_trichotomy (cmpV x v) 0 with h | h | h
    ·exact ⟨false, true, false, false, false, false, by simp [hk]; omega⟩
    ·exact ⟨false, false, true, false, false, false, by simp [hk]; omega⟩
    ·exact ⟨false, false, false, true, false, false, by simp [hk]; omega⟩
   ·exact ⟨true, false, false, false, false, false, by simp [hk]⟩
theorem cmpV_zero {a b : Val} (h : cmpV a b = 0) : a.kind = b.kind := by
 by_cases hk : a.kind = b.kind
 ·exact hk
 ·rw [cmpV_kinds hk] at h
  unfold cmpI at h
  split at h
  ·cases h
  ·split at h
   ·cases h
   ·omega
theorem hit_in (st : Nat → Option EvD) (s : List Nat) (v w : Val) (u : AV) (n : Nat) : hitB st ⟨s, 9, zeroV, u, [v, w]⟩ n = (hitB st (conN s 2 v) n || hitB st (conN s 2 w) n) := by
 cases hs : st n with
 | none => simp [hit_none hs]
 | some d =>
  cases hx : getA d.2 s with
  | none => rw [hit_no (c := ⟨s, 9, zeroV, u, [v, w]⟩) hs hx, hit_no (c := conN s _ _) hs hx, hit_no (c := conN s _ _) hs hx]; rfl
  | some x =>
   rw [hit_val (c := ⟨s, 9, zeroV, u, [v, w]⟩) hs hx, hit_val (c := conN s _ _) hs hx, hit_val (c := conN s _ _) hs hx]
   unfold holdsB conN
   have hz : ∀ y : Val, decide (cmpV x y = 0) = (decide (x.kind = y.kind) && decide (cmpV x y = 0)) := fun y => by
    by_cases h : cmpV x y = 0
    ·simp [h, cmpV_zero h]
    ·simp [h]
   have h1 := hz v
   have h2 := hz w
   have h3 : ∀ b c : Bool, b = (c && b) → (c && b) = b := fun b c h => h.symm
   simp [h3 _ _ h1, h3 _ _ h2]
theorem args5 {cx : Am.Cx} (K : Facts cx) {S : AS} {m : Nat} {vals : List AV} (h : typedArgs cx S (m + 9) [22, 9, 50, 50] vals) : ∃ (u : AV) (l : List EvA) (s : List Nat) (v w : Val), vals = [u, .str s, .agg (encV v), .agg (encV w)] ∧
  Sl S u 2 (l.flatMap encEA) ∧ (∀ e, e ∈ l → AttsAt S e.u e.atts) ∧ l.length ≤ maxLen := by
 obtain ⟨a1, r1, rfl, h1, a2, r2, rfl, h2, a3, r3, rfl, h3, a4, r4, rfl, h4, rfl⟩ := h
 obtain ⟨u, l, rfl, g1, g2, g3⟩ := evs_of (m := m + 3) K h1
 obtain ⟨s, rfl⟩ := str_of K.un9 h2
 obtain ⟨v, rfl⟩ := val_of (m := m + 7) K h3
 obtain ⟨w, rfl⟩ := val_of (m := m + 7) K h4
 exact ⟨u, l, s, v, w, by simp only [argA, K.ag22, K.ag9, K.ag50, soleA], g1, g2, g3⟩
end Go.Proofs.YtfempihpphbgmaaGreat.idx
namespace Go.Proofs.YtfempihpphbgmaaGreat.idx
open Go Go.Am Go.Proofs.YtfempihpphbgmaaGreat.mod
set_option linter.unusedVariables false
set_option linter.unusedSimpArgs false
structure Box5 (S0 : AS) (s : List Nat) (v w : Val) (x B : Nat) (T : AS) : Prop where
 g5 : T.h.get S0.next = some (.row [.str s] 0 0 false 9)
 g6 : T.h.get (S0.next + 1) = some (.row (encV v) 0 0 false 50)
 g7 : T.h.get (S0.next + 2) = some (.row (encV w) 0 0 false 50)
 g9 : T.h.get B = some (.row [.ptr x 0 0 2] 0 0 false 26)
 lt : B < T.next
 le : S0.next + 2 < B
theorem Box5.sub {S0 S T : AS} {s : List Nat} {v w : Val} {x B : Nat} (h : Box5 S0 s v w x B S) (hs : Sub S T) : Box5 S0 s v w x B T := by
 have h1 := h.lt
 have h2 := h.le
 exact ⟨(hs.h _ (by omega)).trans h.g5, (hs.h _ (by omega)).trans h.g6, (hs.h _ (by omega)).trans h.g7, (hs.h _ (by omega)).trans h.g9, Nat.lt_of_lt_of_le h1 hs.next, h2⟩
theorem Box5.lt6 {S0 S : AS} {s : List Nat} {v w : Val} {x B : Nat} (h : Box5 S0 s v w x B S) : S0.next + 1 < S.next := by
 have h1 := h.lt
 have h2 := h.le
 omega
theorem Box5.lt7 {S0 S : AS} {s : List Nat} {v w : Val} {x B : Nat} (h : Box5 S0 s v w x B S) : S0.next + 2 < S.next := by
 have h1 := h.lt
 have h2 := h.le
 omega
theorem bld50 : buildA C1 50 [] = some (.agg [.int .i64 0, .int .i64 0, .str [], .bool false]) := by kernel_rfl
theorem AskAt.ok {T : AS} {st : Nat → Option EvD} {c : Con} {r : AV} (h : AskAt T st c r) : okW r = true := by
 rcases h with ⟨_, rfl⟩ | ⟨_, id, l, rfl, _⟩ <;> rfl
theorem AskAt.okv {T : AS} {st : Nat → Option EvD} {c : Con} {r : AV} (h : AskAt T st c r) : okV r = true := by
 rcases h with ⟨_, rfl⟩ | ⟨_, id, l, rfl, _⟩ <;> rfl
theorem match_has {st : Nat → Option EvD} {n : Nat} {s : List Nat} : (∃ v, st n = some v ∧ matchB [⟨s, 1, zeroV, .nils, []⟩] v.2 = true) ↔ ∃ v, st n = some v ∧ (getA v.2 s).isSome = true := by
 refine exists_congr fun v => and_congr_right fun _ => ?_
 unfold matchB failB
 cases h : getA v.2 s <;> simp [h, holdsB]
theorem Box5.keep {S0 S T : AS} {A : Nat → Prop} {s : List Nat} {v w : Val} {x B : Nat} (h : Box5 S0 s v w x B S) (hs : Keep A S T) (ha : ∀ id, A id → S0.next + 2 < id ∧ id ≠ B) : Box5 S0 s v w x B T := by
 have h1 := h.lt
 have h2 := h.le
 have k : ∀ id, id < S.next → ¬ (S0.next + 2 < id ∧ id ≠ B) → T.h.get id = S.h.get id := fun id h1 h2 => hs.h id h1 fun hA => h2 (ha id hA)
 exact ⟨(k _ (by omega) (by omega)).trans h.g5, (k _ (by omega) (by omega)).trans h.g6, (k _ (by omega) (by omega)).trans h.g7, (k _ (by omega) (by omega)).trans h.g9, Nat.lt_of_lt_of_le h1 hs.next, h2⟩
def se1H (S0 : AS) (L : List EvA) (u : AV) (s : List Nat) (v w : Val) (x B : Nat) (k : Nat) (F' : Fr) (S' : AS) : Prop :=
 ∃ (i : Nat) (X : XI), Sub S0 S' ∧ Live S' X (stOf L i) (9 * i) ∧ X.x = x ∧ (∀ id, X.foot id → S0.next + 2 < id ∧ id ≠ B) ∧ Box5 S0 s v w x B S' ∧ sl F' 0 = u ∧ sl F' 5 = .ptr S0.next 0 0 1 ∧ sl F' 6 = .ptr (S0.next + 1) 0 0 4 ∧ sl F' 7 = .ptr (S0.next + 2) 0 0 4 ∧ sl F' 9 = .ptr B 0 0 1 ∧ sl F' 10 = .int .i64 (i : Int) ∧ i ≤ L.length ∧ k = L.length - i ∧ F'.n = 182
theorem se1H_mk {S0 : AS} {L : List EvA} {u : AV} {s : List Nat} {v w : Val} {x B : Nat} {k : Nat} {F' : Fr} {S' : AS} (i : Nat) (X : XI) (h1 : Sub S0 S') (h2 : Live S' X (stOf L i) (9 * i)) (h3 : X.x = x) (h4 : ∀ id, X.foot id → S0.next + 2 < id ∧ id ≠ B) (hb : Box5 S0 s v w x B S') (h5 : sl F' 0 = u) (h6 : sl F' 5 = .ptr S0.next 0 0 1) (h7 : sl F' 6 = .ptr (S0.next + 1) 0 0 4) (h8 : sl F' 7 = .ptr (S0.next + 2) 0 0 4)
  (h9 : sl F' 9 = .ptr B 0 0 1) (ha : sl F' 10 = .int .i64 (i : Int)) (h10 : i ≤ L.length) (h11 : k = L.length - i) (h12 : F'.n = 182) : se1H S0 L u s v w x B k F' S' := ⟨i, X, h1, h2, h3, h4, hb, h5, h6, h7, h8, h9, ha, h10, h11, h12⟩
def se2H (W : AS) (L : List EvA) (u r1 r2 r3 r4 r5 r6 r7 r9 ra : AV) (k : Nat) (F' : Fr) (S' : AS) : Prop :=
 ∃ i : Nat, S' = W ∧ sl F' 0 = u ∧ sl F' 12 = r1 ∧ sl F' 13 = r2 ∧ sl F' 14 = r3 ∧ sl F' 15 = r4 ∧ sl F' 16 = r5 ∧ sl F' 17 = r6 ∧ sl F' 18 = r7 ∧ sl F' 19 = r9 ∧ sl F' 20 = ra ∧ sl F' 21 = .int .u64 (i : Int) ∧ i ≤ L.length ∧ k = L.length - i ∧ F'.n = 182
theorem se2H_mk {W : AS} {L : List EvA} {u r1 r2 r3 r4 r5 r6 r7 r9 ra : AV} {k : Nat} {F' : Fr} {S' : AS} (i : Nat) (h0 : S' = W) (h1 : sl F' 0 = u) (h2 : sl F' 12 = r1) (h3 : sl F' 13 = r2) (h4 : sl F' 14 = r3) (h5 : sl F' 15 = r4) (h6 : sl F' 16 = r5) (h7 : sl F' 17 = r6) (h8 : sl F' 18 = r7) (h9 : sl F' 19 = r9) (ha : sl F' 20 = ra)
  (hb : sl F' 21 = .int .u64 (i : Int)) (hc : i ≤ L.length) (hd : k = L.length - i) (he : F'.n = 182) : se2H W L u r1 r2 r3 r4 r5 r6 r7 r9 ra k F' S' := ⟨i, h0, h1, h2, h3, h4, h5, h6, h7, h8, h9, ha, hb, hc, hd, he⟩
section
variable {S : AS}
set_option maxRecDepth 20000 in
set_option maxHeartbeats 4000000 in
theorem law5 {u0 : AV} {l : List EvA} {s : List Nat} {v w : Val} (hu : Sl S u0 2 (l.flatMap encEA)) (ha : ∀ e, e ∈ l → AttsAt S e.u e.atts) (hl : l.length ≤ maxLen) :
  CallW C1 5 [u0, .str s, .agg (encV v), .agg (encV w)] S fun r T => r = .bool true := by
 have us := hu.sl
 have ul := hu.len_flat encEA_len (by omega)
 have uo := okW_sl hu
 obtain ⟨N, hN⟩ : ∃ N, N = min l.length 40 := ⟨_, rfl⟩
 have hcut := hu.cut (l := 0) (k := N) (Nat.zero_le _) (by rw [ul]; omega)
 have hsl : ∀ F : Fr, sl F 29 = .int .i64 (N : Int) → sliceV C1 F 22 u0 none (some (.tmp 29)) none = some (subA u0 0 N) := fun F h1 =>
  sliceV_sub o_st22 us bound_none (by rw [bound_some, eval_tmp, h1, natOf_nat]) (Nat.zero_le _) (by rw [ul]; omega)
 rw [Nat.zero_mul, List.drop_zero, Nat.sub_zero, fm_take encEA_len] at hcut
 generalize subA u0 0 N = u at hcut hsl
 obtain ⟨L, hL⟩ : ∃ L, L = l.take N := ⟨_, rfl⟩
 rw [← hL] at hcut
 have hLl : L.length = N := by rw [hL, List.length_take]; omega
 have hG : Given S u L := ⟨hcut, fun e he => ha e (by rw [hL] at he; exact List.mem_of_mem_take he), by omega⟩
 have vs := hG.sl.sl
 have vl := hG.sl.len_flat encEA_len (by omega)
 have vo := okW_sl hG.sl
 have vc := hG.sl.cells
 obtain ⟨M, hM⟩ : ∃ M : AS, M = ⟨((S.h.set S.next (.row [.str s] 0 0 false 9)).set (S.next + 1) (.row (encV v) 0 0 false 50)).set (S.next + 2) (.row (encV w) 0 0 false 50), S.next + 3⟩ := ⟨_, rfl⟩
 obtain ⟨r0, T0, ⟨rfl, n1, n2, n3⟩, e0⟩ := (new_live (S := M)).ex
 have hmin : (if (40 : Int) < (l.length : Int) then (40 : Int) else (l.length : Int)) = (N : Int) := by
  rw [hN]; split <;> omega
 have hMn : M.next = S.next + 3 := by rw [hM]
 obtain ⟨B, hB⟩ : ∃ B, B = T0.next := ⟨_, rfl⟩
 have hBn : B = S.next + 6 := by omega
 obtain ⟨T1, hT1⟩ : ∃ T1 : AS, T1 = ⟨(T0.h.set B (.row [.nilp] 0 0 false 26)).set B (.row [.ptr (M.next + 2) 0 0 2] 0 0 false 26), B + 1⟩ := ⟨_, rfl⟩
 refine enterW (pu1 _) (pr1 _ rfl) o_fn5 rfl o_ok5 (by simp) fun F hn hs => ?_
 rw [nt5] at hn
 have s0 := hs 0
 have s1 := hs 1
 have s2 := hs 2
 have s3 := hs 3
 clear hs
 simp only [List.getElem?_cons_zero, List.getElem?_cons_succ, Option.getD_some] at s0 s1 s2 s3
 simp only [encV] at s2 s3 hM
 simp [s0, s1, s2, s3, us, ul, uo, hmin, min_two, hsl, vc, ex1, ← hM, e0, ← hB, ← hT1]
 have hMT : Sub M T0 := n2
 have hSM : Sub S M := by
  rw [hM]
  exact (sub1.trans sub1).trans sub1
 have hT01 : Sub T0 T1 := by
  rw [hT1, hB]
  exact sub1s
 have gM : ∀ id, id < M.next → T1.h.get id = M.h.get id := fun id hid => (hT01.h id (by have := hMT.next; omega)).trans (hMT.h id hid)
 have hbox : Box5 S s v w (M.next + 2) B T1 := by
  refine ⟨?_, ?_, ?_, by rw [hT1]; exact get_set_same _ _ _, by rw [hT1]; exact Nat.lt_succ_self _, by omega⟩
  ·rw [gM _ (by omega), hM]
   show (((S.h.set _ _).set _ _).set _ _).get _ = _
   rw [get_set_ne _ _ (by omega), get_set_ne _ _ (by omega)]; exact get_set_same _ _ _
  ·rw [gM _ (by omega), hM]
   show (((S.h.set _ _).set _ _).set _ _).get _ = _
   rw [get_set_ne _ _ (by omega)]; exact get_set_same _ _ _
  ·rw [gM _ (by omega), hM]; exact get_set_same _ _ _
 have hfoot0 : ∀ id, (X0 M.next).foot id → S.next + 2 < id ∧ id ≠ B := fun id hf => by
  have h1 := x0_foot hf
  have h2 := n1.foot hf
  omega
 have hST1 : Sub S T1 := (hSM.trans hMT).trans hT01
 refine loopP_of (se1H S L u s v w (M.next + 2) B) L.length (se1H_mk 0 (X0 M.next) hST1 (by rw [stOf_zero]; exact n1.sub hT01) rfl hfoot0 hbox (by simp) (by simp) (by simp) (by simp) (by simp [hB]) (by simp) (Nat.zero_le _) rfl (by simp [hn])) ?_
 clear s0 s1 s2 s3 hn e0 hT1 hM gM hT01 hMT hSM n1 n2 n3 hbox hfoot0 hST1
 generalize M.next + 2 = x
 rintro k F' S' hn' ⟨i, X, q1, q2, q3, q4, q5, t0, t5, t6, t7, t9, t10, hi, hk', hn⟩
 clear hn'
 by_cases hi' : i < L.length
 ·obtain ⟨e, hx⟩ : ∃ e, L[i]? = some e := ⟨_, List.getElem?_eq_getElem hi'⟩
  have hein : e ∈ L := List.mem_of_getElem? hx
  have hlo := loadT_el (cx := C1) (e := 33) (hG.sl.toSub q1) encEA_len (by omega) hx o_ag33 o_sz33
  have hat := (hG.att e hein).sub q1
  obtain ⟨a1, a2⟩ := stOf_add hx
  obtain ⟨r1, T2, ⟨X1, b1, b2, b3, rfl⟩, e1⟩ := (add_live (n := i) (key := e.key) q2 hat (fun id hb hw => by
   have := q4 id (XI.wf_foot hw)
   have := (hG.att e hein).sl.old; omega) (by omega)).ex
  rw [q3] at e1
  obtain ⟨o1, _⟩ := b2.out q1 (fun id hf => by have := q4 id hf; omega)
  have hb2 : Box5 S s v w x B T2 := q5.keep b2.keep (fun id hw => q4 id (XI.wf_foot hw))
  have o2 : ∀ id, X1.foot id → S.next + 2 < id ∧ id ≠ B := fun id hf => by
   rcases b2.foot id hf with h1 | h1
   ·exact q4 id h1
   ·have := q5.lt
    have := q5.le
    omega
  have w8 := wrap_succ (show i < 9223372036854775807 by omega)
  have w64 : IntKind.u64.wrap (i : Int) = (i : Int) := u64_nat (by omega)
  simp only [encEA] at hlo
  simp [t0, t5, t6, t7, t9, t10, vs, vl, hi', hn]
  refine draws [.r 0 0, .p, .p, .p, .p, .p, .r 0 0, .e []] (n := 182) (by kernel_rfl) (by simp [hn]) ?_
  simp [t0, t5, t6, t7, t9, t10, vs, vl, vo, hi', hlo, w64, ex1, e1, q5.g9, ne_lt q5.lt]
  exact ⟨L.length - (i + 1), by omega, se1H_mk (i + 1) X1 o1 (by have := b1.mono (show 9 * i + 9 ≤ 9 * (i + 1) by omega); rw [← a2]; exact this) (b3.trans q3) o2 hb2 (by simp [t0]) (by simp [t5]) (by simp [t6]) (by simp [t7]) (by simp [t9]) (by simp [w8, -Int.natCast_add]) hi' rfl (by simp [hn])⟩
 ·obtain rfl : i = L.length := by omega
  have hBl := q5.lt
  have hBe := q5.le
  generalize hst : stOf L L.length = st at q2
  have hask : ∀ {T : AS}, Sub S' T → ∀ (o : Int) (v' : Val) (u' : AV) (vals : List Val), Sl T u' 4 (vals.flatMap encV) → vals.length ≤ 9223372036854775807 → ∃ r T2, (Sub T T2 ∧ AskAt T2 st ⟨s, o, v', u', vals⟩ r) ∧ ∀ Q, CallW C1 19 [.int .i64 o, .agg (encV v'), u', .ptr B 0 0 1, .ptr S.next 0 0 1] T Q = Q r T2 := fun {T} hT o v' u' vals h1 h2 => by
   have hb := q5.sub hT
   have hn := hT.next
   obtain ⟨r, T2, h3, e⟩ := (ask19 (b1 := B) (b2 := S.next) (s := s) (o := o) (v := v') (q2.sub hT) (by have := hG.le; omega) (by rw [q3]; exact hb.g9) hb.g5 (by omega) (by omega) h1 h2).ex
   exact ⟨r, T2, h3, e⟩
  obtain ⟨r1, T2, ⟨h1, m1⟩, e1⟩ := hask (Sub.refl S') 1 zeroV .nils [] Sl.nil (by simp)
  obtain ⟨r2, T3, ⟨h2, m2⟩, e2⟩ := hask h1 2 v .nils [] Sl.nil (by simp)
  have k2 := h1.trans h2
  obtain ⟨r3, T4, ⟨h3, m3⟩, e3⟩ := hask k2 3 v .nils [] Sl.nil (by simp)
  have k3 := k2.trans h3
  obtain ⟨r4, T5, ⟨h4, m4⟩, e4⟩ := hask k3 4 v .nils [] Sl.nil (by simp)
  have k4 := k3.trans h4
  obtain ⟨r5, T6, ⟨h5, m5⟩, e5⟩ := hask k4 5 v .nils [] Sl.nil (by simp)
  have k5 := k4.trans h5
  obtain ⟨r6, T7, ⟨h6, m6⟩, e6⟩ := hask k5 6 v .nils [] Sl.nil (by simp)
  have k6 := k5.trans h6
  obtain ⟨r7, T8, ⟨h7, m7⟩, e7⟩ := hask k6 7 v .nils [] Sl.nil (by simp)
  have k7 := k6.trans h7
  have w1 := m1.ok
  have w2 := m2.ok
  have w3 := m3.ok
  have w4 := m4.ok
  have w5 := m5.ok
  have w6 := m6.ok
  have w7 := m7.ok
  have y2 := (q5.sub h1).g6
  have y3 := (q5.sub k2).g6
  have y4 := (q5.sub k3).g6
  have y5 := (q5.sub k4).g6
  have y6 := (q5.sub k5).g6
  have y7 := (q5.sub k6).g6
  have z2 : S.next + 1 < T2.next := (q5.sub h1).lt6
  have z3 : S.next + 1 < T3.next := (q5.sub k2).lt6
  have z4 : S.next + 1 < T4.next := (q5.sub k3).lt6
  have z5 : S.next + 1 < T5.next := (q5.sub k4).lt6
  have z6 : S.next + 1 < T6.next := (q5.sub k5).lt6
  have z7 : S.next + 1 < T7.next := (q5.sub k6).lt6
  simp only [encV, zeroV] at e1 e2 e3 e4 e5 e6 e7 y2 y3 y4 y5 y6 y7
  simp [t0, t5, t6, t7, t9, t10, vs, vl, bld50, ex1, e1]
  refine draws [.p, .r 0 0, .e [], .p, .r 1 0, .e [], .p, .r 2 0, .e [], .p, .r 3 0, .e [], .p, .r 4 0, .e [], .p, .r 5 0, .e [], .p, .p, .p, .p, .p, .p] (n := 182) (by kernel_rfl) (by simp [hn]) ?_
  simp [t0, t5, t6, t7, t9, ex1, e2, e3, e4, e5, e6, e7, y2, y3, y4, y5, y6, y7, ne_lt z2, ne_lt z3, ne_lt z4, ne_lt z5, ne_lt z6, ne_lt z7, w1, w2, w3, w4, w5, w6, w7]
  have m1' := m1
  rcases m1' with ⟨c1, rfl⟩ | ⟨c1, id1, l1, rfl, p1, p2, p3⟩
  ·simp [eqm52, eqn52, ex1, awake14]
  have m2' := m2
  rcases m2' with ⟨c2, rfl⟩ | ⟨c2, id2, l2, rfl, _⟩
  ·simp [eqm52, eqn52, ex1, awake14]
  obtain ⟨r8, T9, ⟨rfl, rfl⟩, e8⟩ := (entries_live (q2.sub k7) s (l := l1) (p2.imp fun h => by omega) (fun n => by rw [p3 n]; exact match_has)).ex
  rw [q3] at e8
  have p1' := lenA (ts := []) (xs := []) (Mp.toSub p1 (((((h2.trans h3).trans h4).trans h5).trans h6).trans h7))
  have y8 := (q5.sub k7).g9
  have y9 := (q5.sub k7).g5
  have z8 : B < T9.next := (q5.sub k7).lt
  have z9 : S.next < T9.next := by omega
  simp [eqm52, eqn52, ex1, p1', y8, y9, ne_lt z8, ne_lt z9, e8, t5, t6, t7, t9]
  obtain ⟨U, hU⟩ : ∃ U : AS, U = ⟨T9.h.set T9.next (.row (encV v ++ encV w) 0 0 false 50), T9.next + 1⟩ := ⟨_, rfl⟩
  have hTU : Sub T9 U := by rw [hU]; exact sub1
  have gU : U.h.get T9.next = some (.row (encV v ++ encV w) 0 0 false 50) := by rw [hU]; exact get_set_same _ _ _
  have hUn : U.next = T9.next + 1 := by rw [hU]
  have hfr : ∀ (F : Fr) (id : Nat), sl F 83 = .agg (encV v) → sl F 84 = .agg (encV w) → freshV C1 F id (.buildSlice 51 2 #[(0, .tmp 83), (1, .tmp 84)]) = some (.slice id 0 0 2 8 4 (some 2), .row (encV v ++ encV w) 0 0 false 50) := fun F id h1 h2 => by
   have := freshV_els (cx := C1) (F := F) (t := 51) (id := id) (n := 2) (a := #[(0, .tmp 83), (1, .tmp 84)]) [encV v, encV w] o_st51 rfl (by simp [eval_tmp, h1, h2, cellsOf]) (by simp [encV]) (by decide)
   simpa using this
  have hset : Sl U (.slice T9.next 0 0 2 8 4 (some 2)) 4 ([v, w].flatMap encV) := by
   refine ⟨by simp [isSl, capB], ?_, by simp [encV, sLen], by simp only [bnd]; omega⟩
   simp only [rdS, rd_at, gU, rdO_row]
   rw [if_pos ⟨Nat.le_refl _, Nat.le_refl _, by omega⟩]
   simp [encV]
  have kU := k7.trans hTU
  obtain ⟨r9, V, ⟨h9, m9⟩, e9⟩ := hask kU 9 zeroV _ [v, w] hset (by simp)
  have k9 := kU.trans h9
  obtain ⟨ra, W, ⟨ha', ma⟩, ea⟩ := hask k9 2 w .nils [] Sl.nil (by simp)
  have w9 := m9.ok
  have wa := ma.ok
  have x6 := (q5.sub k7).g6
  have x7 := (q5.sub k7).g7
  have x8 := (q5.sub k9).g7
  have v6 := (q5.sub k7).lt6
  have v7 := (q5.sub k7).lt7
  have v8 := (q5.sub k9).lt7
  have xU := (q5.sub kU).g7
  have vU := (q5.sub kU).lt7
  simp only [encV, zeroV, List.cons_append, List.nil_append] at e9 ea x6 x7 x8 xU hU hfr
  refine draws [.p, .p, .r 0 0, .r 0 0, .e [], .e [], .p, .r 2 0, .e [], .p, .p] (n := 182) (by kernel_rfl) (by simp [hn]) ?_
  simp [t0, t5, t6, t7, t9, ex1, bld50, hfr, x6, x7, x8, ne_lt v6, ne_lt v7, ne_lt v8, xU, ne_lt vU, ← hU, e9, ea, w9, wa]
  have b1 := lookA (m1.sub (((((((h2.trans h3).trans h4).trans h5).trans h6).trans h7).trans hTU).trans (h9.trans ha')))
  have b2 := lookA (m2.sub ((((((h3.trans h4).trans h5).trans h6).trans h7).trans hTU).trans (h9.trans ha')))
  have b3 := lookA (m3.sub (((((h4.trans h5).trans h6).trans h7).trans hTU).trans (h9.trans ha')))
  have b4 := lookA (m4.sub ((((h5.trans h6).trans h7).trans hTU).trans (h9.trans ha')))
  have b5 := lookA (m5.sub (((h6.trans h7).trans hTU).trans (h9.trans ha')))
  have b6 := lookA (m6.sub ((h7.trans hTU).trans (h9.trans ha')))
  have b7 := lookA (m7.sub (hTU.trans (h9.trans ha')))
  have b9 := lookA (m9.sub ha')
  have ba := lookA ma
  have hvo := okW_sl hG.sl
  rw [c1] at b1
  rw [c2] at b2
  rw [maySame (o' := 2) (by decide) (by decide) (by decide) (by decide), c2] at b3 b4 b5 b6 b7
  simp only [Bool.true_and] at b1 b2 b3 b4 b5 b6 b7
  have hu64 : IntKind.u64.wrap (L.length : Int) = (L.length : Int) := u64_nat (by have := hG.le; omega)
  have hother : (ra = .nilm) ∨ (∃ ida, ra = .map ida ∧ (∀ n : Nat, lookupV C1 W 52 r9 (.int .u64 (n : Int)) false = some (.int .i64 (oneI (hitB st (conN s 2 v) n || hitB st (conN s 2 w) n))) ∧ lookupV C1 W 52 ra (.int .u64 (n : Int)) false = some (.int .i64 (oneI (hitB st (conN s 2 w) n))))) := by
   rcases ma with ⟨_, h⟩ | ⟨h, id, _, hr, _⟩
   ·exact .inl h
   ·refine .inr ⟨id, hr, fun n => ⟨?_, ?_⟩⟩
    ·rw [b9 n, mayIn c2 h, hit_in]; rfl
    ·rw [ba n, h]; rfl
  clear b9 ba e1 e2 e3 e4 e5 e6 e7 e8 e9 ea hask hfr hsl
  refine loopP_of (se2H W L u (.map id1) (.map id2) r3 r4 r5 r6 r7 r9 ra) L.length (se2H_mk 0 rfl (by simp [t0]) (by simp) (by simp) (by simp) (by simp) (by simp) (by simp) (by simp) (by simp) (by simp) (by simp) (Nat.zero_le _) rfl (by simp [hn])) ?_
  clear t0 t5 t6 t7 t9 t10 hn
  rintro k2 F2 V2 hn' ⟨j, rfl, t0, t12, t13, t14, t15, t16, t17, t18, t19, t20, t21, hj, hk2, hn⟩
  clear hn'
  by_cases hj' : j < L.length
  ·have hj'' : (j : Int) < (L.length : Int) := by omega
   have w21 : IntKind.u64.wrap ((j : Int) + 1) = ((j + 1 : Nat) : Int) := by
    rw [← Int.natCast_add_one]
    exact u64_nat (by have := hG.le; omega)
   obtain ⟨a, b, c, d, _, _, f1, f2, f3, f4, f5, f6, f7, f8, f9, fa⟩ := five st s v j
   have b1 := b1 j
   have b2 := b2 j
   have b3 := b3 j
   have b4 := b4 j
   have b5 := b5 j
   have b6 := b6 j
   have b7 := b7 j
   simp only [conN] at f1 f2 f3 f4 f5 f6 f7 hother
   rw [f1] at b1
   rw [f2] at b2
   rw [f3] at b3
   rw [f4] at b4
   rw [f5] at b5
   rw [f6] at b6
   rw [f7] at b7
   have hend : ∀ F3 : Fr, sl F3 0 = u → sl F3 12 = .map id1 → sl F3 13 = .map id2 → sl F3 14 = r3 → sl F3 15 = r4 → sl F3 16 = r5 → sl F3 17 = r6 → sl F3 18 = r7 → sl F3 19 = r9 → sl F3 20 = ra → sl F3 21 = .int .u64 ((j + 1 : Nat) : Int) → F3.n = 182 → ∃ m, m < k2 ∧ se2H V2 L u (.map id1) (.map id2) r3 r4 r5 r6 r7 r9 ra m F3 V2 := fun F3 p0 p1 p2 p3 p4 p5 p6 p7 p8 p9 pa pn =>
    ⟨L.length - (j + 1), by omega, se2H_mk (j + 1) rfl p0 p1 p2 p3 p4 p5 p6 p7 p8 p9 pa hj' rfl pn⟩
   have hbcd : (b = false ∧ c = false ∧ d = false) ∨ (b = true ∧ c = false ∧ d = false) ∨ (b = false ∧ c = true ∧ d = false) ∨ (b = false ∧ c = false ∧ d = true) := by
    clear f1 f2 f3 f4 f5 f6 f7 b1 b2 b3 b4 b5 b6 b7
    cases b <;> cases c <;> cases d <;> simp at f8 f9 fa ⊢
   simp [t0, t12, t13, t14, t15, t16, t17, t18, t19, t20, t21, vs, vl, hu64, hj'', hn]
   refine still_ok (n := 182) (by kernel_rfl) (by simp [hn]) ?_
   have y3' := m3.okv
   have y4' := m4.okv
   have y5' := m5.okv
   have y6' := m6.okv
   have y7' := m7.okv
   have y9' := m9.okv
   have ya' := ma.okv
   rcases hbcd with ⟨rfl, rfl, rfl⟩ | ⟨rfl, rfl, rfl⟩ | ⟨rfl, rfl, rfl⟩ | ⟨rfl, rfl, rfl⟩
   ·simp [oneI] at b1 b2 b3 b4 b5 b6 b7
    simp [t0, t12, t13, t14, t15, t16, t17, t18, t19, t20, t21, vs, vl, hu64, hj'', b1, b2, b3, b4, b5, b6, b7, bin_neq_bool unb4, y3', y4', y5', y6', y7', y9', ya']
    rcases hother with rfl | ⟨ida, rfl, ho⟩
    ·simp [nen52, t21]
     exact hend _ (by simp [t0]) (by simp [t12]) (by simp [t13]) (by simp [t14]) (by simp [t15]) (by simp [t16]) (by simp [t17]) (by simp [t18]) (by simp [t19]) (by simp [t20]) (by simp [w21, -Int.natCast_add]) (by simp [hn])
    ·obtain ⟨ho1, ho2⟩ := ho j
     rw [f2] at ho1
     cases hq : hitB st ⟨s, 2, w, .nils, []⟩ j <;>
      ·simp [hq, oneI] at ho1 ho2
       simp [nem52, ho1, ho2, bin_neq_bool unb4, y9', t0, t12, t13, t14, t15, t16, t17, t18, t19, t20, t21]
       exact hend _ (by simp [t0]) (by simp [t12]) (by simp [t13]) (by simp [t14]) (by simp [t15]) (by simp [t16]) (by simp [t17]) (by simp [t18]) (by simp [t19]) (by simp [t20]) (by simp [w21, -Int.natCast_add]) (by simp [hn])
   ·simp [oneI] at b1 b2 b3 b4 b5 b6 b7
    simp [t0, t12, t13, t14, t15, t16, t17, t18, t19, t20, t21, vs, vl, hu64, hj'', b1, b2, b3, b4, b5, b6, b7, bin_neq_bool unb4, y3', y4', y5', y6', y7', y9', ya']
    rcases hother with rfl | ⟨ida, rfl, ho⟩
    ·simp [nen52, t21]
     exact hend _ (by simp [t0]) (by simp [t12]) (by simp [t13]) (by simp [t14]) (by simp [t15]) (by simp [t16]) (by simp [t17]) (by simp [t18]) (by simp [t19]) (by simp [t20]) (by simp [w21, -Int.natCast_add]) (by simp [hn])
    ·obtain ⟨ho1, ho2⟩ := ho j
     rw [f2] at ho1
     cases hq : hitB st ⟨s, 2, w, .nils, []⟩ j <;>
      ·simp [hq, oneI] at ho1 ho2
       simp [nem52, ho1, ho2, bin_neq_bool unb4, y9', t0, t12, t13, t14, t15, t16, t17, t18, t19, t20, t21]
       exact hend _ (by simp [t0]) (by simp [t12]) (by simp [t13]) (by simp [t14]) (by simp [t15]) (by simp [t16]) (by simp [t17]) (by simp [t18]) (by simp [t19]) (by simp [t20]) (by simp [w21, -Int.natCast_add]) (by simp [hn])
   ·simp [oneI] at b1 b2 b3 b4 b5 b6 b7
    simp [t0, t12, t13, t14, t15, t16, t17, t18, t19, t20, t21, vs, vl, hu64, hj'', b1, b2, b3, b4, b5, b6, b7, bin_neq_bool unb4, y3', y4', y5', y6', y7', y9', ya']
    rcases hother with rfl | ⟨ida, rfl, ho⟩
    ·simp [nen52, t21]
     exact hend _ (by simp [t0]) (by simp [t12]) (by simp [t13]) (by simp [t14]) (by simp [t15]) (by simp [t16]) (by simp [t17]) (by simp [t18]) (by simp [t19]) (by simp [t20]) (by simp [w21, -Int.natCast_add]) (by simp [hn])
    ·obtain ⟨ho1, ho2⟩ := ho j
     rw [f2] at ho1
     cases hq : hitB st ⟨s, 2, w, .nils, []⟩ j <;>
      ·simp [hq, oneI] at ho1 ho2
       simp [nem52, ho1, ho2, bin_neq_bool unb4, y9', t0, t12, t13, t14, t15, t16, t17, t18, t19, t20, t21]
       exact hend _ (by simp [t0]) (by simp [t12]) (by simp [t13]) (by simp [t14]) (by simp [t15]) (by simp [t16]) (by simp [t17]) (by simp [t18]) (by simp [t19]) (by simp [t20]) (by simp [w21, -Int.natCast_add]) (by simp [hn])
   ·simp [oneI] at b1 b2 b3 b4 b5 b6 b7
    simp [t0, t12, t13, t14, t15, t16, t17, t18, t19, t20, t21, vs, vl, hu64, hj'', b1, b2, b3, b4, b5, b6, b7, bin_neq_bool unb4, y3', y4', y5', y6', y7', y9', ya']
    rcases hother with rfl | ⟨ida, rfl, ho⟩
    ·simp [nen52, t21]
     exact hend _ (by simp [t0]) (by simp [t12]) (by simp [t13]) (by simp [t14]) (by simp [t15]) (by simp [t16]) (by simp [t17]) (by simp [t18]) (by simp [t19]) (by simp [t20]) (by simp [w21, -Int.natCast_add]) (by simp [hn])
    ·obtain ⟨ho1, ho2⟩ := ho j
     rw [f2] at ho1
     cases hq : hitB st ⟨s, 2, w, .nils, []⟩ j <;>
      ·simp [hq, oneI] at ho1 ho2
       simp [nem52, ho1, ho2, bin_neq_bool unb4, y9', t0, t12, t13, t14, t15, t16, t17, t18, t19, t20, t21]
       exact hend _ (by simp [t0]) (by simp [t12]) (by simp [t13]) (by simp [t14]) (by simp [t15]) (by simp [t16]) (by simp [t17]) (by simp [t18]) (by simp [t19]) (by simp [t20]) (by simp [w21, -Int.natCast_add]) (by simp [hn])
  ·have hj'' : ¬ (j : Int) < (L.length : Int) := by omega
   simp [t0, t12, t13, t14, t15, t16, t17, t18, t19, t20, t21, vs, vl, hu64, hj'', ex1, awake14]
end
end Go.Proofs.YtfempihpphbgmaaGreat.idx
