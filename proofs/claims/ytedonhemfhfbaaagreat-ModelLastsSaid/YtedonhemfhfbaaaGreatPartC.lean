/-
  A book in memory: its subscriptions.
  A subscription's numbers.
  Deliveries: whether one is formed, its span.
  Whether a delivery is what a history has.
  Whether a delivery fits.
  A predicate in new memory.
  Subscribe, Unsubscribe.
  A subscription is turned; a history's events go.
  Tell.
  Tell: the call.
-/
import Derived.Test.YtedonhemfhfbaaaGreatPartA
namespace Go.Proofs.YtedonhemfhfbaaaGreat.mod
open Go Go.Am
set_option linter.unusedVariables false
set_option linter.unusedSimpArgs false

/-! ### Arrays in memory -/
noncomputable def arrT (cx : Am.Cx) (t : TypeId) : Option (Nat × Nat) := match und cx t with
  | some (.array n e) => match szOf cx e with | some z => some (n, z) | none => none
  | _ => none
def arrOk (o : Option (Nat × Nat)) (v u : AV) : Option AV := match o, v, u with
  | some (n, z), .ptr id g off lim, .int _ m => if 0 ≤ m ∧ m < n then some (.ptr id g (off + m.toNat * z) lim) else none
  | _, _, _ => none
@[simp] theorem arrOk_ptr {n z id g off lim : Nat} {k : IntKind} {m : Int} : arrOk (some (n, z)) (.ptr id g off lim) (.int k m) = if 0 ≤ m ∧ m < n then some (.ptr id g (off + m.toNat * z) lim) else none := rfl
theorem arrOk_aop {cx : Am.Cx} {F : Fr} {S : AS} {dst : Option Tmp} {ty t : TypeId} {pos : String} {af : Array Edge} {gd : Option (Nat × Bool)} {x ix : Operand} {w : AV} (h : arrOk (arrT cx t) (eval F x) (eval F ix) = some w) :
    aop cx F S ⟨dst, .indexAddr t x ix, ty, pos, af, gd⟩ = .val w S := by
  unfold arrOk at h
  split at h
  · rename_i n z id g off lim k m h1 h2 h3
    split at h
    · rename_i hm
      cases h
      unfold arrT at h1
      split at h1
      · rename_i n' e hu
        split at h1
        · rename_i z' hz
          cases h1
          obtain ⟨i, rfl⟩ : ∃ i : Nat, m = i := ⟨m.toNat, by omega⟩
          have hlt : i < n := by omega
          simp only [aop, hu, h2, h3, natOf, hz, nblt, hlt, decide_true, cond_true, forceN_eq]
          rfl
        · cases h1
      · cases h1
    · cases h
  · cases h
@[simp] theorem aop_index_ptr {cx : Am.Cx} {F : Fr} {S : AS} {dst : Option Tmp} {ty t : TypeId} {pos : String} {af : Array Edge} {gd : Option (Nat × Bool)} {x ix : Tmp} {v u w : AV} (hx : sl F x = v) (hi : sl F ix = u) (h : arrOk (arrT cx t) v u = some w) :
    aop cx F S ⟨dst, .indexAddr t (.tmp x) (.tmp ix), ty, pos, af, gd⟩ = .val w S :=
  arrOk_aop (by rw [eval_tmp, eval_tmp, hx, hi]; exact h)
@[simp] theorem arr122 : arrT C0 122 = some (8, 1) := by kernel_rfl
/-- A subscription, as it is meant. -/
structure SubS where
  cs : List Con
  cur : List (Int × Nat)
  next : List (Int × Nat)
  told : List (Int × Nat)
def bare (c : Con) : Con := { c with setv := .nils }
def encT (t : Int × Nat) : List AV := [.int .i64 t.1, .int .u64 t.2]
theorem encT_len (t : Int × Nat) : (encT t).length = 2 := rfl
def encM (m : List (Int × Nat)) : List (Int × AV) := m.map fun p => (p.1, .int .u64 p.2)
def nget : List (Int × Nat) → Int → Option Nat
  | [], _ => none
  | (a, v) :: m, k => if k = a then some v else nget m k
def nput : List (Int × Nat) → Int → Nat → List (Int × Nat)
  | [], k, v => [(k, v)]
  | (a, w) :: m, k, v => if k = a then (k, v) :: m else (a, w) :: nput m k v
theorem mget_encM (m : List (Int × Nat)) (k : Int) : mget (encM m) k = (nget m k).map fun n : Nat => AV.int .u64 n := by
  induction m with
  | nil => rfl
  | cons p m ih =>
    obtain ⟨a, v⟩ := p
    show (if k = a then some (AV.int .u64 v) else mget (encM m) k) = _
    unfold nget
    by_cases h : k = a <;> simp [h, ih]
theorem mput_encM (m : List (Int × Nat)) (k : Int) (n : Nat) : mput (encM m) k (.int .u64 n) = encM (nput m k n) := by
  induction m with
  | nil => rfl
  | cons p m ih =>
    obtain ⟨a, v⟩ := p
    show (if k = a then (k, AV.int .u64 n) :: encM m else (a, AV.int .u64 v) :: mput (encM m) k (.int .u64 n)) = _
    unfold nput
    by_cases h : k = a
    · simp [h, encM]
    · rw [if_neg h, if_neg h, ih]
      rfl
theorem nget_nput (m : List (Int × Nat)) (k : Int) (n : Nat) (j : Int) : nget (nput m k n) j = if j = k then some n else nget m j := by
  induction m with
  | nil => simp [nput, nget]
  | cons p m ih =>
    obtain ⟨a, w⟩ := p
    unfold nput
    by_cases h : k = a
    · subst h
      by_cases hj : j = k <;> simp [nget, hj]
    · simp only [h, if_false, nget, ih]
      by_cases hj : j = a
      · subst hj
        have : ¬ j = k := fun e => h e.symm
        simp [this]
      · simp [hj]
theorem nput_mem {m : List (Int × Nat)} {k : Int} {n : Nat} {t : Int × Nat} (h : t ∈ nput m k n) : t = (k, n) ∨ t ∈ m := by
  induction m with
  | nil => exact .inl (by simpa [nput] using h)
  | cons p m ih =>
    obtain ⟨a, w⟩ := p
    unfold nput at h
    by_cases hk : k = a
    · rw [if_pos hk] at h
      rcases List.mem_cons.1 h with h | h
      · exact .inl h
      · exact .inr (List.mem_cons_of_mem _ h)
    · rw [if_neg hk] at h
      rcases List.mem_cons.1 h with h | h
      · exact .inr (by rw [h]; exact List.mem_cons_self ..)
      · rcases ih h with h | h
        · exact .inl h
        · exact .inr (List.mem_cons_of_mem _ h)
theorem nget_mem {m : List (Int × Nat)} {k : Int} {n : Nat} (h : nget m k = some n) : (k, n) ∈ m := by
  induction m with
  | nil => cases h
  | cons p m ih =>
    obtain ⟨a, w⟩ := p
    unfold nget at h
    by_cases hk : k = a
    · rw [if_pos hk] at h; cases h; subst hk; exact List.mem_cons_self ..
    · rw [if_neg hk] at h; exact List.mem_cons_of_mem _ (ih h)

def predFoot (p : AV) (ks : List Con) (id : Nat) : Prop := bnd p = id + 1 ∨ ∃ c, c ∈ ks ∧ bnd c.setv = id + 1
theorem PredAt.agree {S T : AS} {p : AV} {ks : List Con} (h : PredAt S p ks) (hs : ∀ id, predFoot p ks id → T.h.get id = S.h.get id) (hn : S.next ≤ T.next) : PredAt T p ks :=
  ⟨h.sl.agree (fun id e => hs id (.inl e)) hn, fun c hc => ⟨(h.con c hc).sl.agree (fun id e => hs id (.inr ⟨c, hc, e⟩)) hn, (h.con c hc).le⟩, h.le⟩
theorem PredAt.foot {S : AS} {p : AV} {ks : List Con} (h : PredAt S p ks) {id : Nat} (hf : predFoot p ks id) : id < S.next := by
  rcases hf with e | ⟨c, hc, e⟩
  · have := h.sl.old; omega
  · have := (h.con c hc).sl.old; omega
/-- Where a subscription lies. -/
structure SubX where
  s : Nat
  p : AV
  cm : AV
  nm : AV
  tv : AV
  ks : List Con
  x : SubS
def SubX.own (X : SubX) (id : Nat) : Prop := id + 1 = X.s + 1 ∨ id + 1 = bnd X.cm ∨ id + 1 = bnd X.nm ∨ id + 1 = bnd X.tv
def SubX.foot (X : SubX) (id : Nat) : Prop := X.own id ∨ predFoot X.p X.ks id
structure SubM (S : AS) (X : SubX) : Prop where
  lt : X.s < S.next
  at_ : S.h.get X.s = some (.row [X.p, .nils, X.cm, X.nm, X.tv] 0 0 false 136)
  pred : PredAt S X.p X.ks
  bare : X.ks.map bare = X.x.cs
  cur : Mp S X.cm (fun n : Int => AV.int .i64 n) (encM X.x.cur)
  next : Mp S X.nm (fun n : Int => AV.int .i64 n) (encM X.x.next)
  told : Gw S X.tv 2 157 (X.x.told.flatMap encT)
  a1 : X.s + 1 ≠ bnd X.cm
  a2 : X.s + 1 ≠ bnd X.nm
  a3 : X.s + 1 ≠ bnd X.tv
  a4 : bnd X.cm ≠ bnd X.nm
  a5 : bnd X.cm ≠ bnd X.tv
  a6 : bnd X.nm ≠ bnd X.tv
  pf : ∀ id, predFoot X.p X.ks id → ¬ X.own id
  n1 : ∀ t, t ∈ X.x.told → 1 ≤ t.2 ∧ t.2 ≤ 1048576
  n2 : ∀ t, t ∈ X.x.cur → 1 ≤ t.2 ∧ t.2 ≤ 1048576
  n3 : ∀ t, t ∈ X.x.next → 1 ≤ t.2 ∧ t.2 ≤ 1048577
  tl : X.x.told.length ≤ 8
  tc : capNo X.tv = true
theorem Mp.lt {κ : Type} {S : AS} {x : AV} {enc : κ → AV} {m : List (κ × AV)} (h : Mp S x enc m) : 0 < bnd x ∧ bnd x ≤ S.next := by
  obtain ⟨id, es, clock, rfl, h1, h2, h3⟩ := h
  simp [bnd]; omega
theorem SubM.foot {S : AS} {X : SubX} (h : SubM S X) {id : Nat} (hf : X.foot id) : id < S.next := by
  have h1 := h.lt
  have h2 := Mp.lt h.cur
  have h3 := Mp.lt h.next
  have h4 := h.told.1.old
  rcases hf with (e | e | e | e) | e
  · omega
  · omega
  · omega
  · omega
  · exact h.pred.foot e
theorem SubM.agree {S T : AS} {X : SubX} (h : SubM S X) (hs : ∀ id, X.foot id → T.h.get id = S.h.get id) (hn : S.next ≤ T.next) : SubM T X :=
  ⟨Nat.lt_of_lt_of_le h.lt hn, by rw [hs _ (.inl (.inl rfl))]; exact h.at_, h.pred.agree (fun id e => hs id (.inr e)) hn, h.bare,
    Mp.agree h.cur (fun id e => hs id (.inl (.inr (.inl e.symm)))) hn, Mp.agree h.next (fun id e => hs id (.inl (.inr (.inr (.inl e.symm))))) hn,
    h.told.agree (fun id e => hs id (.inl (.inr (.inr (.inr e.symm))))) hn, h.a1, h.a2, h.a3, h.a4, h.a5, h.a6, h.pf, h.n1, h.n2, h.n3, h.tl, h.tc⟩
theorem SubM.sub {S T : AS} {X : SubX} (h : SubM S X) (hs : Sub S T) : SubM T X := h.agree (fun id hf => hs.h id (h.foot hf)) hs.next
def pX : Option SubX → AV | none => .nilp | some X => .ptr X.s 0 0 5
structure BookAt (S : AS) (b : Nat) (st : Nat → Option SubX) : Prop where
  lt : b < S.next
  at_ : S.h.get b = some (.row [.bool true, pX (st 0), pX (st 1), pX (st 2), pX (st 3), pX (st 4), pX (st 5), pX (st 6), pX (st 7), .nilp, .nilp, .nilp, .nilp, .nilp, .nilp, .nilp, .nilp] 0 0 false 126)
  sub : ∀ i X, st i = some X → SubM S X
  mine : ∀ i X, st i = some X → ¬ X.foot b
  apart : ∀ i j X Y, i ≠ j → st i = some X → st j = some Y → ∀ id, X.foot id → Y.foot id → False
def bookFoot (b : Nat) (st : Nat → Option SubX) (id : Nat) : Prop := id = b ∨ ∃ i X, st i = some X ∧ X.foot id
section
variable {S T : AS} {b : Nat} {st : Nat → Option SubX}
theorem BookAt.foot (h : BookAt S b st) {id : Nat} (hf : bookFoot b st id) : id < S.next := by
  rcases hf with rfl | ⟨i, X, hX, hf⟩
  · exact h.lt
  · exact (h.sub i X hX).foot hf
theorem BookAt.agree (h : BookAt S b st) (hs : ∀ id, bookFoot b st id → T.h.get id = S.h.get id) (hn : S.next ≤ T.next) : BookAt T b st :=
  ⟨Nat.lt_of_lt_of_le h.lt hn, by rw [hs _ (.inl rfl)]; exact h.at_, fun i X hX => (h.sub i X hX).agree (fun id hf => hs id (.inr ⟨i, X, hX, hf⟩)) hn, h.mine, h.apart⟩
theorem BookAt.toSub (h : BookAt S b st) (hs : Sub S T) : BookAt T b st := h.agree (fun id hf => hs.h id (h.foot hf)) hs.next

theorem bnone (h : BookAt S b st) {Q : AV → AS → Prop} : CallW C0 69 [.ptr b 0 0 17] S Q = Q (.bool false) S := by
  refine CallW.eq (enterW (pu0 _) (pr0 _ rfl) fn69 rfl ok69 (by simp) fun F hn hs => ?_)
  have s0 := hs 0
  clear hs
  simp only [List.getElem?_cons_zero, Option.getD_some] at s0
  simp [s0, h.at_]
def stAt (st : Nat → Option SubX) (id : Int) : Option SubX := if id < 0 then none else if 8 ≤ id then none else st id.toNat
theorem BookAt.at_st (h : BookAt S b st) {id : Int} {X : SubX} (e : stAt st id = some X) : SubM S X := by
  unfold stAt at e
  split at e
  · cases e
  · split at e
    · cases e
    · exact h.sub _ _ e
theorem okW_pX {o : Option SubX} : okW (pX o) = true := by cases o <;> rfl
theorem np_pX {o : Option SubX} : isPanB (pX o) = false := by cases o <;> rfl
theorem lt8 {n : Nat} (h : n < 8) : n = 0 ∨ n = 1 ∨ n = 2 ∨ n = 3 ∨ n = 4 ∨ n = 5 ∨ n = 6 ∨ n = 7 := by omega
theorem bsub (h : BookAt S b st) (id : Int) {Q : AV → AS → Prop} : CallW C0 80 [.ptr b 0 0 17, .int .i64 id] S Q = Q (pX (stAt st id)) S := by
  refine CallW.eq (enterW (pu0 _) (pr0 _ rfl) fn80 rfl ok80 (by simp) fun F hn hs => ?_)
  have s0 := hs 0
  have s1 := hs 1
  clear hs
  simp only [List.getElem?_cons_zero, List.getElem?_cons_succ, Option.getD_some] at s0 s1
  by_cases h0 : id < 0
  · simp [s0, s1, h.at_, bnone h, ex0, h0, stAt, pX]
  by_cases h8 : 8 ≤ id
  · simp [s0, s1, h.at_, bnone h, ex0, h0, h8, stAt, pX]
  · obtain ⟨n, rfl⟩ : ∃ n : Nat, id = n := ⟨id.toNat, by omega⟩
    have hn8 : n < 8 := by omega
    rcases lt8 hn8 with rfl | rfl | rfl | rfl | rfl | rfl | rfl | rfl <;> simp [s0, s1, h.at_, bnone h, ex0, np_pX, okW_pX, stAt]
end
def firstN (x : SubS) (pub : Int) : Nat := match nget x.cur pub with | some n => n + 1 | none => 1
def nextN (x : SubS) (pub : Int) : Nat := match nget x.next pub with | some n => n | none => firstN x pub
end Go.Proofs.YtedonhemfhfbaaaGreat.mod

namespace Go.Proofs.YtedonhemfhfbaaaGreat.mod
open Go Go.Am
set_option linter.unusedVariables false
set_option linter.unusedSimpArgs false
theorem nt132 : Tryz.f132.ntmps = 36 := by kernel_rfl
section
variable {S T : AS}
theorem first132 {X : SubX} (h : SubM S X) (pub : Int) : CallW C0 132 [.ptr X.s 0 0 5, .int .i64 pub] S fun r T => r = .int .u64 (firstN X.x pub) ∧ Sub S T := by
  have h1 : Sub S ⟨S.h.set S.next (.row [.int .i64 pub] 0 0 false 3), S.next + 1⟩ := sub1
  have hX := h.sub h1
  have hlt := h.lt
  have lk := lookup_mp (cx := C0) (t := 133) (k := pub) (ok := true) mk133 (keyInt .i64 .i64) hX.cur
  rw [mget_encM] at lk
  obtain ⟨cid, _, _, hcm, _⟩ := id h.cur
  obtain ⟨r, T, ⟨rfl, hT⟩, e⟩ := (idx174 (enc := encT) (l := []) (u := .nils) (S := ⟨S.h.set S.next (.row [.int .i64 pub] 0 0 false 3), S.next + 1⟩) (f := 175) (caps := [.ptr S.next 0 0 1]) (P := fun _ => false) encT_len Sl.nil (by simp) rfl (fun T hT x hx => by cases hx)).ex
  refine enterW (pu0 _) (pr0 _ rfl) fn132 rfl ok132 (by simp) fun F hn hs => ?_
  rw [nt132] at hn
  have s0 := hs 0
  have s1 := hs 1
  clear hs
  simp only [List.getElem?_cons_zero, List.getElem?_cons_succ, Option.getD_some] at s0 s1
  unfold firstN
  have hat := h.at_
  rw [hcm] at lk hat
  cases hg : nget X.x.cur pub with
  | none =>
    rw [hg] at lk
    simp [idxI] at lk e
    simp [s0, s1, hn]
    refine still_ok (n := 36) (by kernel_rfl) (by simp [hn]) ?_
    simp [s0, s1, hat, ne_lt hlt, lk, e, ex0, h1.trans hT]
  | some n =>
    have hm := h.n2 _ (nget_mem hg)
    have hw := u64_succ (n := n) (by have := hm.2; simp only at this; omega)
    rw [hg] at lk
    simp at lk
    simp [s0, s1, hn]
    refine still_ok (n := 36) (by kernel_rfl) (by simp [hn]) ?_
    simp [s0, s1, hat, ne_lt hlt, lk, ex0, h1, hw]
theorem next83 {X : SubX} (h : SubM S X) (pub : Int) : CallW C0 83 [.ptr X.s 0 0 5, .int .i64 pub] S fun r T => r = .int .u64 (nextN X.x pub) ∧ Sub S T := by
  have lk := lookup_mp (cx := C0) (t := 133) (k := pub) (ok := true) mk133 (keyInt .i64 .i64) h.next
  rw [mget_encM] at lk
  obtain ⟨cid, _, _, hcm, _⟩ := id h.next
  obtain ⟨r, T, ⟨rfl, hT⟩, e⟩ := (first132 h pub).ex
  refine enterW (pu0 _) (pr0 _ rfl) fn83 rfl ok83 (by simp) fun F hn hs => ?_
  have s0 := hs 0
  have s1 := hs 1
  clear hs
  simp only [List.getElem?_cons_zero, List.getElem?_cons_succ, Option.getD_some] at s0 s1
  unfold nextN
  have hat := h.at_
  rw [hcm] at lk hat
  cases hg : nget X.x.next pub with
  | none =>
    rw [hg] at lk
    simp at lk
    simp [s0, s1, hat, lk, e, ex0, hT]
  | some n =>
    rw [hg] at lk
    simp at lk
    simp [s0, s1, hat, lk, ex0, Sub.refl]
variable {b : Nat} {st : Nat → Option SubX}
def nextV (o : Option SubX) (pub : Int) : Nat := match o with | none => 0 | some X => nextN X.x pub
def roomV (o : Option SubX) : Int := match o with | none => 0 | some X => 8 - (X.x.told.length : Int)
theorem SubM.told_len {X : SubX} (h : SubM S X) : isSl 2 X.tv = true ∧ sLen X.tv = X.x.told.length := ⟨h.told.1.sl, h.told.1.len_flat encT_len (by omega)⟩
end
end Go.Proofs.YtedonhemfhfbaaaGreat.mod

namespace Go.Proofs.YtedonhemfhfbaaaGreat.mod
open Go Go.Am
set_option linter.unusedVariables false
set_option linter.unusedSimpArgs false

structure Dlv where
  n : Nat
  time : Nat
  key : List Nat
  u : AV
  atts : List Att
  fr : Nat
  to : Nat
def encD (d : Dlv) : List AV := [.int .u64 d.n, .int .u64 d.time, .str d.key, d.u, .int .u64 d.fr, .int .u64 d.to]
def Dlv.gap (d : Dlv) : Bool := !(decide (d.fr = 0) && decide (d.to = 0))
def formedB (d : Dlv) : Bool := if d.gap = false then decide (1 ≤ d.n) else (decide (d.n = 0) && (decide (d.time = 0) && (decide (d.key = []) && decide (d.atts = [])))) && (decide (1 ≤ d.fr) && decide (d.fr ≤ d.to))
def spanF (d : Dlv) : Nat := if d.gap = false then d.n else d.fr
def spanT (d : Dlv) : Nat := if d.gap = false then d.n else d.to
theorem atts_nil {S : AS} : AttsAt S .nils [] := ⟨Sl.nil, by simp⟩
theorem bld40z : buildA C0 40 [] = some (.agg [.str [], .nils]) := by kernel_rfl
theorem bld46z : buildA C0 46 [] = some (.agg [.int .u64 0, .int .u64 0]) := by kernel_rfl
theorem eqc46 (c : Bool) (a b : Int) : eqV C0 46 c (.agg [.int .u64 a, .int .u64 b]) (.agg [.int .u64 0, .int .u64 0]) = some (decide (a = 0) && decide (b = 0)) := by
  have e : eqV C0 46 c (.agg [.int .u64 a, .int .u64 b]) (.agg [.int .u64 0, .int .u64 0]) = andS (some (eqI a 0)) (andS (some (eqI b 0)) (some true)) := by kernel_rfl
  rw [e, eqI_eq, eqI_eq]
  unfold andS
  by_cases h1 : a = 0 <;> by_cases h2 : b = 0 <;> simp [h1, h2]
theorem beq46 (c : Bool) (a b : Int) : binV C0 .eql 46 c (.agg [.int .u64 a, .int .u64 b]) (.agg [.int .u64 0, .int .u64 0]) = some (.bool (decide (a = 0) && decide (b = 0))) := bin_eql_agg (eqc46 c a b)
theorem bne46 (c : Bool) (a b : Int) : binV C0 .neq 46 c (.agg [.int .u64 a, .int .u64 b]) (.agg [.int .u64 0, .int .u64 0]) = some (.bool (!(decide (a = 0) && decide (b = 0)))) := by
  unfold binV
  simp [eqc46, oddA]
theorem formed81 (d : Dlv) {S : AS} (hd : AttsAt S d.u d.atts) : CallW C0 81 [.agg (encD d)] S fun r T => r = .bool (formedB d) ∧ Sub S T := by
  have h1 : Sub S ⟨S.h.set S.next (.row (encD d) 0 0 false 48), S.next + 1⟩ := sub1
  obtain ⟨r, T, ⟨rfl, hT⟩, e⟩ := (evSame (a := d.key) (b := []) (hd.sub h1) atts_nil).ex
  have hT1 := h1.trans hT
  have g0 : T.h.get S.next = some (.row (encD d) 0 0 false 48) := by rw [hT.h _ (Nat.lt_succ_self _)]; exact get_set_same _ _ _
  have hu := hd.sl.cells
  refine enterW (pu0 _) (pr0 _ rfl) fn81 rfl ok81 (by simp) fun F hn hs => ?_
  have s0 := hs 0
  clear hs
  simp only [List.getElem?_cons_zero, Option.getD_some, encD] at s0 e g0 h1
  unfold formedB Dlv.gap
  have q1 : ((1 : Int) ≤ d.n) = (1 ≤ d.n) := by simp; omega
  have q2 : ((1 : Int) ≤ d.fr) = (1 ≤ d.fr) := by simp; omega
  cases hB : (decide (d.key = []) && decide (d.atts = [])) <;> rw [hB] at e <;> by_cases z1 : d.n = 0
  · by_cases z2 : d.time = 0
    · simp only [z1, z2] at s0 e g0 h1
      by_cases z3 : d.fr = 0 <;> by_cases z4 : d.to = 0 <;> (try simp only [z3, z4] at s0 e g0 h1) <;> simp only [Int.ofNat_zero] at s0 e g0 h1 <;> simp [s0, hu, bld40z, bld46z, beq46, z1, z2, z3, z4, e, g0, ex0, q1, q2, hT1]
    · simp only [z1] at s0 e g0 h1
      by_cases z3 : d.fr = 0 <;> by_cases z4 : d.to = 0 <;> (try simp only [z3, z4] at s0 e g0 h1) <;> simp only [Int.ofNat_zero] at s0 e g0 h1 <;> simp [s0, hu, bld40z, bld46z, beq46, z1, z2, z3, z4, ex0, q1, q2, h1]
  · by_cases z3 : d.fr = 0 <;> by_cases z4 : d.to = 0 <;> (try simp only [z3, z4] at s0 e g0 h1) <;> (try simp only [Int.ofNat_zero] at s0 e g0 h1) <;> simp [s0, hu, bld40z, bld46z, beq46, z1, z3, z4, ex0, q1, q2, h1]
  · by_cases z2 : d.time = 0
    · simp only [z1, z2] at s0 e g0 h1
      by_cases z3 : d.fr = 0 <;> by_cases z4 : d.to = 0 <;> (try simp only [z3, z4] at s0 e g0 h1) <;> simp only [Int.ofNat_zero] at s0 e g0 h1 <;> by_cases z7 : 1 ≤ d.fr <;> simp [s0, hu, bld40z, bld46z, beq46, z1, z2, z3, z4, z7, e, g0, ex0, q1, q2, hT1] <;> omega
    · simp only [z1] at s0 e g0 h1
      by_cases z3 : d.fr = 0 <;> by_cases z4 : d.to = 0 <;> (try simp only [z3, z4] at s0 e g0 h1) <;> simp only [Int.ofNat_zero] at s0 e g0 h1 <;> simp [s0, hu, bld40z, bld46z, beq46, z1, z2, z3, z4, ex0, q1, q2, h1]
  · by_cases z3 : d.fr = 0 <;> by_cases z4 : d.to = 0 <;> (try simp only [z3, z4] at s0 e g0 h1) <;> (try simp only [Int.ofNat_zero] at s0 e g0 h1) <;> simp [s0, hu, bld40z, bld46z, beq46, z1, z3, z4, ex0, q1, q2, h1]
theorem nt82 : Tryz.f82.ntmps = 20 := by kernel_rfl
theorem span82 (d : Dlv) {S : AS} (hd : AttsAt S d.u d.atts) : CallW C0 82 [.agg (encD d)] S fun r T => r = .tuple [.int .u64 (spanF d), .int .u64 (spanT d)] ∧ Sub S T := by
  have h1 : Sub S ⟨S.h.set S.next (.row (encD d) 0 0 false 48), S.next + 1⟩ := sub1
  have hu := hd.sl.cells
  refine enterW (pu0 _) (pr0 _ rfl) fn82 rfl ok82 (by simp) fun F hn hs => ?_
  rw [nt82] at hn
  have s0 := hs 0
  clear hs
  simp only [List.getElem?_cons_zero, Option.getD_some, encD] at s0 h1
  unfold spanF spanT Dlv.gap
  by_cases z3 : d.fr = 0 <;> by_cases z4 : d.to = 0 <;> (try simp only [z3, z4] at s0 h1) <;> (try simp only [Int.ofNat_zero] at s0 h1) <;> simp [s0, hu, bld46z, beq46, z3, z4, hn] <;> refine still_ok (n := 20) (by kernel_rfl) (by simp [hn]) ?_ <;> simp [s0, z3, z4, h1]
end Go.Proofs.YtedonhemfhfbaaaGreat.mod

namespace Go.Proofs.YtedonhemfhfbaaaGreat.mod
open Go Go.Am
set_option linter.unusedVariables false
set_option linter.unusedSimpArgs false

theorem matchB_bare (cs : List Con) (l : List Att) : matchB (cs.map bare) l = matchB cs l := by
  unfold matchB
  rw [List.any_map]
  rfl
noncomputable def rightB (L : List Kept) (dur : Nat) (cs : List Con) (d : Dlv) : Bool :=
  decide (spanT d ≤ dur) && (if d.gap = false then (match L[d.n - 1]? with
    | some k => decide (k.time = d.time) && ((decide (k.key = d.key) && decide (k.atts = d.atts)) && matchB cs k.atts)
    | none => false) else !((L.drop (d.fr - 1)).take (d.to - (d.fr - 1))).any fun k => decide (k.state = 0))
theorem there134 (k : Kept) {S : AS} (hu : cellsOf k.u = some [k.u]) : CallW C0 134 [.agg (encK k)] S fun r T => r = .bool (decide (k.state = 0)) ∧ Sub S T := by
  have h1 : Sub S ⟨S.h.set S.next (.row (encK k) 0 0 false 142), S.next + 1⟩ := sub1
  refine enterW (pu0 _) (pr0 _ rfl) fn134 rfl ok134 (by simp) fun F hn hs => ?_
  have s0 := hs 0
  clear hs
  simp only [List.getElem?_cons_zero, Option.getD_some, encK] at s0 h1
  simp [s0, hu, h1]
section
variable {S : AS} {h : Nat} {v p : AV} {L : List Kept} {dur : Nat} {ks : List Con}
theorem cut_flat {α : Type} {sz : Nat} {enc : α → List AV} {S : AS} {v : AV} {L : List α} (h : Sl S v sz (L.flatMap enc)) (hz : ∀ x, (enc x).length = sz) (hp : 0 < sz) {l k : Nat} (h1 : l ≤ k) (h2 : k ≤ L.length) : Sl S (subA v l k) sz (((L.drop l).take (k - l)).flatMap enc) := by
  have := h.cut h1 (by rw [h.len_flat hz hp]; exact h2)
  rw [fm_drop hz, fm_take hz] at this
  exact this
theorem spanF_pos {d : Dlv} (hf : formedB d = true) : 1 ≤ spanF d ∧ spanF d ≤ spanT d := by
  unfold formedB at hf
  unfold spanF spanT
  cases hg : d.gap <;> rw [hg] at hf <;> simp at hf ⊢
  · exact hf
  · exact hf.2
set_option maxRecDepth 20000 in
theorem right84 (hh : HistAt S h v L dur) (hp : PredAt S p ks) (d : Dlv) (hd : AttsAt S d.u d.atts) (hf : formedB d = true) :
    CallW C0 84 [.ptr h 0 0 3, p, .agg (encD d)] S fun r T => r = .bool (rightB L dur ks d) ∧ Sub S T := by
  have h1 : Sub S ⟨S.h.set S.next (.row (encD d) 0 0 false 48), S.next + 1⟩ := sub1
  have hd1 := hd.sub h1
  obtain ⟨r, T1, ⟨rfl, hT1⟩, e1⟩ := (span82 d hd1).ex
  have hS1 := h1.trans hT1
  have hh1 := hh.sub hS1
  have e2 := fun Q => durable26 hh1 (Q := Q)
  have g1 : T1.h.get S.next = some (.row (encD d) 0 0 false 48) := by rw [hT1.h _ (Nat.lt_succ_self _)]; exact get_set_same _ _ _
  have hlt1 : S.next < T1.next := hT1.next
  have hu := hd.sl.cells
  have hl := hh.dur
  have hle := hh.le
  have hgc : d.gap = !(decide (d.fr = 0) && decide (d.to = 0)) := rfl
  refine enterW (pu0 _) (pr0 _ rfl) fn84 rfl ok84 (by simp) fun F hn hs => ?_
  have s0 := hs 0
  have s1 := hs 1
  have s2 := hs 2
  clear hs
  simp only [List.getElem?_cons_zero, List.getElem?_cons_succ, Option.getD_some] at s0 s1 s2
  have hsp := spanF_pos hf
  unfold rightB
  by_cases hto : spanT d ≤ dur
  · have q1 : ¬ ((dur : Int) < (spanT d : Nat)) := by omega
    cases hg : d.gap with
    | false =>
      have hg2 : (decide (d.fr = 0) && decide (d.to = 0)) = true := by rw [hgc] at hg; simpa using hg
      simp only [Bool.and_eq_true, decide_eq_true_eq] at hg2
      obtain ⟨z1, z2⟩ := hg2
      have hsF : spanF d = d.n := by unfold spanF; rw [hg]; rfl
      have hsT : spanT d = d.n := by unfold spanT; rw [hg]; rfl
      rw [hsF] at e1 hsp
      rw [hsT] at e1 hsp hto q1
      have hn1 : d.n - 1 + 1 = d.n := by omega
      have hk : L[d.n - 1]? = some (L[d.n - 1]'(by omega)) := List.getElem?_eq_getElem (by omega)
      generalize hkk : L[d.n - 1]'(by omega) = k at hk
      obtain ⟨r, T2, ⟨u', rfl, hu', hb', hT2⟩, e3⟩ := (item_yes hh1 hk).ex
      rw [hn1] at e3
      have hS2 := hS1.trans hT2
      have hA : Sub T2 ⟨(T2.h.set T2.next (.row [.int .u64 0, .int .u64 0, .str [], .nils] 0 0 false 42)).set T2.next (.row [.int .u64 d.n, .int .u64 k.time, .str k.key, u'] 0 0 false 42), T2.next + 1⟩ := sub1s
      have g2 : T2.h.get S.next = some (.row (encD d) 0 0 false 48) := by rw [hT2.h _ hlt1]; exact g1
      have hlt2 : S.next < T2.next := Nat.lt_of_lt_of_le hlt1 hT2.next
      obtain ⟨r, T3, ⟨rfl, hT3⟩, e4⟩ := (evSame (a := k.key) (b := d.key) (hu'.sub hA) (hd.sub (hS2.trans hA))).ex
      have hS3 := (hS2.trans hA).trans hT3
      obtain ⟨r, T4, ⟨rfl, hT4⟩, e5⟩ := (hmatches (hh.sub hS3) (hp.sub hS3) hk).ex
      rw [hn1] at e5
      obtain ⟨r, T5, ⟨rfl, hT5⟩, e6⟩ := (hmatches (hh.sub (hS2.trans hA)) (hp.sub (hS2.trans hA)) hk).ex
      simp only [encD, z1, z2, Int.ofNat_zero] at s2 e1 g1 g2
      have hu2 := hu'.sl.cells
      simp only [hk]
      cases hB : (decide (k.key = d.key) && decide (k.atts = d.atts)) <;> rw [hB] at e4 <;> by_cases ht : k.time = d.time
      · rw [ht] at e4
        simp [s0, s1, s2, hu, e1, e2, e3, e4, ex0, q1, hto, hsT, g1, g2, bld46z, beq46, ht, hu2, ne_lt hlt2, hS3]
      · have ht' : ¬ (k.time : Int) = d.time := by omega
        simp [s0, s1, s2, hu, e1, e2, e3, e4, ex0, q1, hto, hsT, g1, g2, bld46z, beq46, ht, ht', hu2, ne_lt hlt2, hS2.trans hA]
      · rw [ht] at e4
        simp [s0, s1, s2, hu, e1, e2, e3, e4, e5, ex0, q1, hto, hsT, g1, g2, bld46z, beq46, ht, hu2, ne_lt hlt2, hS3.trans hT4]
      · have ht' : ¬ (k.time : Int) = d.time := by omega
        simp [s0, s1, s2, hu, e1, e2, e3, e4, ex0, q1, hto, hsT, g1, g2, bld46z, beq46, ht, ht', hu2, ne_lt hlt2, hS2.trans hA]
    | true =>
      have hg2 : (decide (d.fr = 0) && decide (d.to = 0)) = false := by rw [hgc] at hg; cases hx : (decide (d.fr = 0) && decide (d.to = 0)) <;> rw [hx] at hg <;> first | rfl | cases hg
      have hsF : spanF d = d.fr := by unfold spanF; rw [hg]; rfl
      have hsT : spanT d = d.to := by unfold spanT; rw [hg]; rfl
      rw [hsF] at e1 hsp
      rw [hsT] at e1 hsp hto q1
      have u1 := hh.gw.1.sl
      have u2 := hh.len
      have hcut := cut_flat (hh1.gw.1) encK_len (by omega) (l := d.fr - 1) (k := d.to) (by omega) (by omega)
      obtain ⟨r, T2, ⟨rfl, hT2⟩, e3⟩ := (con133 (P := fun k : Kept => decide (k.state = 0)) (f := 134) (caps := []) encK_len hcut (by simp; omega) rfl (fun T hT k hk => there134 k ((hh.att k (List.mem_of_mem_drop (List.mem_of_mem_take hk))).sl.cells))).ex
      have hw := u64_nat (n := d.fr - 1) (by omega)
      have hc : ((d.fr - 1 : Nat) : Int) = (d.fr : Int) - 1 := by omega
      have hw2 : IntKind.u64.wrap ((d.fr : Int) - 1) = ((d.fr - 1 : Nat) : Int) := by rw [← hc]; exact hw
      have hS2 := hS1.trans hT2
      simp only [encD] at s2 e1 g1
      have c1 : d.fr - 1 ≤ d.to := by omega
      have c2 : d.to ≤ L.length := by omega
      have hzz : ¬ (d.fr = 0 ∧ d.to = 0) := by omega
      have hz0 : ¬ d.fr = 0 := by omega
      simp [s0, s1, s2, hu, e1, e2, e3, ex0, q1, hto, g1, bld46z, beq46, hz0, hh1.at_, u1, u2, hw2, c1, c2, hS2, hsT]
  · have q1 : ((dur : Int) < (spanT d : Nat)) := by omega
    simp only [encD] at s2 e1
    simp [s0, s1, s2, hu, e1, e2, ex0, q1, hto, hS1]
end
end Go.Proofs.YtedonhemfhfbaaaGreat.mod

namespace Go.Proofs.YtedonhemfhfbaaaGreat.mod
open Go Go.Am
set_option linter.unusedVariables false
set_option linter.unusedSimpArgs false

noncomputable def matchAt (L : List Kept) (cs : List Con) (n : Nat) : Bool := match L[n - 1]? with | some k => matchB cs k.atts | none => false
noncomputable def anyM (L : List Kept) (cs : List Con) (lo hi : Nat) : Bool := (List.range' lo (hi - lo)).any (matchAt L cs)
theorem anyM_false {L : List Kept} {cs : List Con} {lo hi : Nat} (h : ∀ j, lo ≤ j → j < hi → matchAt L cs j = false) : anyM L cs lo hi = false := by
  unfold anyM
  rw [List.any_eq_false]
  intro x hx
  rw [List.mem_range'_1] at hx
  rw [h x hx.1 (by omega)]
  simp
theorem anyM_true {L : List Kept} {cs : List Con} {lo hi j : Nat} (h1 : lo ≤ j) (h2 : j < hi) (h3 : matchAt L cs j = true) : anyM L cs lo hi = true := by
  unfold anyM
  rw [List.any_eq_true]
  exact ⟨j, by rw [List.mem_range'_1]; omega, h3⟩
noncomputable def fitsN (L : List Kept) (dur : Nat) (x : SubS) (pub : Int) (d : Dlv) : Int :=
  if pub < 0 then 1 else if 256 ≤ pub then 1 else if formedB d = false then 1 else if rightB L dur x.cs d = false then 2
  else if spanF d < nextN x pub then 3 else if anyM L x.cs (nextN x pub) (spanF d) = true then 4 else if 8 ≤ x.told.length then 5 else 0
theorem rightB_bare {L : List Kept} {dur : Nat} {ks : List Con} {d : Dlv} : rightB L dur (ks.map bare) d = rightB L dur ks d := by
  unfold rightB
  simp only [matchB_bare]
theorem matchAt_bare {L : List Kept} {ks : List Con} {n : Nat} : matchAt L (ks.map bare) n = matchAt L ks n := by
  unfold matchAt
  simp only [matchB_bare]
theorem SubM.next_le {S : AS} {X : SubX} (h : SubM S X) (pub : Int) : 1 ≤ nextN X.x pub ∧ nextN X.x pub ≤ 1048577 := by
  unfold nextN firstN
  cases h1 : nget X.x.next pub with
  | some n => have := h.n3 _ (nget_mem h1); simpa using this
  | none =>
    cases h2 : nget X.x.cur pub with
    | some n => have := h.n2 _ (nget_mem h2); simp only at this ⊢; omega
    | none => simp
/-- The head of a round of Fits. -/
def fitH (S : AS) (b h s : Nat) (fr nx : Nat) (P : Nat → Bool) (k : Nat) (F' : Fr) (S' : AS) : Prop :=
  ∃ i : Nat, Sub S S' ∧ sl F' 4 = .ptr h 0 0 3 ∧ sl F' 11 = .ptr s 0 0 5 ∧ sl F' 12 = .int .u64 fr ∧ sl F' 15 = .int .u64 i ∧ nx ≤ i ∧ i ≤ fr ∧ k = fr - i ∧ ∀ j, nx ≤ j → j < i → P j = false
theorem fitH_mk {S : AS} {b h s : Nat} {fr nx : Nat} {P : Nat → Bool} {k : Nat} {F' : Fr} {S' : AS} (i : Nat) (h1 : Sub S S') (h2 : sl F' 4 = .ptr h 0 0 3) (h3 : sl F' 11 = .ptr s 0 0 5) (h4 : sl F' 12 = .int .u64 fr) (h5 : sl F' 15 = .int .u64 i)
    (h6 : nx ≤ i) (h7 : i ≤ fr) (h8 : k = fr - i) (h9 : ∀ j, nx ≤ j → j < i → P j = false) : fitH S b h s fr nx P k F' S' := ⟨i, h1, h2, h3, h4, h5, h6, h7, h8, h9⟩
theorem nt16 : Tryz.f16.ntmps = 74 := by kernel_rfl
section
variable {S : AS} {b h : Nat} {v : AV} {L : List Kept} {dur : Nat} {st : Nat → Option SubX}
noncomputable def fitsV (o : Option SubX) (L : List Kept) (dur : Nat) (pub : Int) (d : Dlv) : Int := match o with | none => 1 | some X => fitsN L dur X.x pub d
set_option maxRecDepth 20000 in
theorem fits16 (hb : BookAt S b st) (hh : HistAt S h v L dur) (id pub : Int) (d : Dlv) (hd : AttsAt S d.u d.atts) :
    CallW C0 16 [.ptr b 0 0 17, .int .i64 id, .int .i64 pub, .agg (encD d), .ptr h 0 0 3] S fun r T => r = .int .i64 (fitsV (stAt st id) L dur pub d) ∧ Sub S T := by
  have h1 : Sub S ⟨S.h.set S.next (.row (encD d) 0 0 false 48), S.next + 1⟩ := sub1
  have hb1 := hb.toSub h1
  have hd1 := hd.sub h1
  have hu := hd.sl.cells
  have e1 := fun Q => bsub hb1 id (Q := Q)
  have hl := hh.dur
  have hle := hh.le
  refine enterW (pu0 _) (pr0 _ rfl) fn16 rfl ok16 (by simp) fun F hn hs => ?_
  rw [nt16] at hn
  have s0 := hs 0
  have s1 := hs 1
  have s2 := hs 2
  have s3 := hs 3
  have s4 := hs 4
  clear hs
  simp only [List.getElem?_cons_zero, List.getElem?_cons_succ, Option.getD_some] at s0 s1 s2 s3 s4
  unfold fitsV
  cases hst : stAt st id with
  | none =>
    rw [hst] at e1
    simp only [pX, encD] at e1 s3 h1
    simp [s0, s1, s2, s3, s4, hu, e1, ex0, h1]
  | some X =>
    rw [hst] at e1
    simp only [pX, encD] at e1 s3
    have hX := hb.at_st hst
    unfold fitsN
    by_cases p0 : pub < 0
    · simp only [encD] at h1
      simp [s0, s1, s2, s3, s4, hu, e1, ex0, p0, h1]
    by_cases p1 : 256 ≤ pub
    · simp only [encD] at h1
      simp [s0, s1, s2, s3, s4, hu, e1, ex0, p0, p1, h1]
    obtain ⟨r, T1, ⟨rfl, hT1⟩, e2⟩ := (formed81 d hd1).ex
    have hS1 := h1.trans hT1
    have g1 : T1.h.get S.next = some (.row (encD d) 0 0 false 48) := by rw [hT1.h _ (Nat.lt_succ_self _)]; exact get_set_same _ _ _
    cases hf : formedB d with
    | false =>
      rw [hf] at e2
      simp only [encD] at h1 e2
      simp [s0, s1, s2, s3, s4, hu, e1, e2, ex0, p0, p1, hS1, hf]
    | true =>
      rw [hf] at e2
      obtain ⟨r, T2, ⟨rfl, hT2⟩, e3⟩ := (span82 d (hd.sub hS1)).ex
      have hS2 := hS1.trans hT2
      have g2 : T2.h.get S.next = some (.row (encD d) 0 0 false 48) := by rw [hT2.h _ hT1.next]; exact g1
      obtain ⟨r, T3, ⟨rfl, hT3⟩, e4⟩ := (next83 (hX.sub hS2) pub).ex
      have hS3 := hS2.trans hT3
      have g3 : T3.h.get S.next = some (.row (encD d) 0 0 false 48) := by rw [hT3.h _ (Nat.lt_of_lt_of_le hT1.next hT2.next)]; exact g2
      have hX3 := hX.sub hS3
      obtain ⟨r, T4, ⟨rfl, hT4⟩, e5⟩ := (right84 (hh.sub hS3) (hX3.pred) d (hd.sub hS3) hf).ex
      have hS4 := hS3.trans hT4
      have g4 : T4.h.get S.next = some (.row (encD d) 0 0 false 48) := by rw [hT4.h _ (Nat.lt_of_lt_of_le hT1.next (Nat.le_trans hT2.next hT3.next))]; exact g3
      have hX4 := hX.sub hS4
      have a3 := hX3.at_
      have a4 := hX4.at_
      have hrb : rightB L dur X.x.cs d = rightB L dur X.ks d := by rw [← hX.bare, rightB_bare]
      rw [← hrb] at e5
      have hsp := spanF_pos hf
      have hpok : okW X.p = true := okW_of hX.pred.sl.ok
      simp only [encD] at e2 e3 e5 g1 g2 g3 g4
      simp [s0, s1, s2, s3, s4, hu, e1, e2, e3, e4, ex0, p0, p1, g1, g2, g3, hn]
      refine draws [.p, .p, .p, .p, .r 0 0, .r 0 0, .e [], .p, .p] (n := 74) (by kernel_rfl) (by simp [hn]) ?_
      cases hr : rightB L dur X.x.cs d with
      | false =>
        rw [hr] at e5
        simp [s0, s1, s2, s3, s4, hu, e5, ex0, p0, p1, g3, a3, hS4, hpok, hf, hr]
      | true =>
        rw [hr] at e5
        have hto : spanT d ≤ dur := by
          unfold rightB at hr
          simp only [Bool.and_eq_true, decide_eq_true_eq] at hr
          exact hr.1
        have hnl := hX.next_le pub
        by_cases hlt : spanF d < nextN X.x pub
        · have q1 : ((spanF d : Nat) : Int) < (nextN X.x pub : Nat) := by omega
          simp [s0, s1, s2, s3, s4, hu, e5, ex0, p0, p1, g3, a3, hS4, hpok, q1, hlt, hf, hr]
        · have q1 : ¬ ((spanF d : Nat) : Int) < (nextN X.x pub : Nat) := by omega
          simp [s0, s1, s2, s3, s4, hu, e5, ex0, p0, p1, g3, a3, hpok, q1, hlt]
          have hmb : ∀ j, matchAt L X.x.cs j = matchAt L X.ks j := fun j => by rw [← hX.bare, matchAt_bare]
          refine loopP_of (fitH T4 b h X.s (spanF d) (nextN X.x pub) (matchAt L X.ks)) (spanF d - nextN X.x pub) (fitH_mk (nextN X.x pub) (Sub.refl _) (by simp [s4]) (by simp) (by simp) (by simp) (Nat.le_refl _) (by omega) rfl (fun j h1 h2 => by omega)) ?_
          rintro k F' S' hn' ⟨i, hsub, t4, t11, t12, t15, hi1, hi2, hk, ha⟩
          have hn2 : F'.n = 74 := by rw [hn']; simp [hn]
          clear hn' s0 s1 s2 s3 s4 hn
          have hS5 := hS4.trans hsub
          have hX5 := hX.sub hS5
          have a5 := hX5.at_
          by_cases hlt' : i < spanF d
          · have hki : L[i - 1]? = some (L[i - 1]'(by omega)) := List.getElem?_eq_getElem (by omega)
            generalize L[i - 1]'(by omega) = kk at hki
            obtain ⟨r, T5, ⟨rfl, hT5⟩, e6⟩ := (hmatches (hh.sub hS5) hX5.pred hki).ex
            have hi0 : i - 1 + 1 = i := by omega
            rw [hi0] at e6
            have hmm : matchAt L X.ks i = matchB X.ks kk.atts := by unfold matchAt; rw [hki]
            cases hm : matchB X.ks kk.atts with
            | true =>
              rw [hm] at e6 hmm
              have hany : anyM L X.x.cs (nextN X.x pub) (spanF d) = true := anyM_true hi1 hlt' (by rw [hmb]; exact hmm)
              simp [t4, t11, t12, t15, hlt', a5, e6, ex0, hpok, hany, hS5.trans hT5, p0, p1, hf, hr, hlt]
            | false =>
              rw [hm] at e6 hmm
              have hw : IntKind.u64.wrap ((i : Int) + 1) = ((i + 1 : Nat) : Int) := by rw [u64_succ (by omega)]; simp
              simp [t4, t11, t12, t15, hlt', a5, e6, ex0, hpok]
              exact ⟨spanF d - (i + 1), by omega, fitH_mk (i + 1) (hsub.trans hT5) (by simp [t4]) (by simp [t11]) (by simp [t12]) (by simp [hw]) (by omega) hlt' rfl
                (fun j h1 h2 => by
                  by_cases hj : j = i
                  · subst hj; exact hmm
                  · exact ha j h1 (by omega))⟩
          · have hall : anyM L X.x.cs (nextN X.x pub) (spanF d) = false := anyM_false fun j h1 h2 => by rw [hmb]; exact ha j h1 (by omega)
            obtain ⟨u1, u2⟩ := hX5.told_len
            have htok : okW X.tv = true := okW_of hX5.told.1.ok
            by_cases h8 : 8 ≤ X.x.told.length
            · have q8 : (8 : Int) ≤ X.x.told.length := by omega
              simp [t4, t11, t12, t15, hlt', a5, ex0, hall, htok, u1, u2, h8, q8, hS5, p0, p1, hf, hr, hlt]
            · have q8 : ¬ (8 : Int) ≤ X.x.told.length := by omega
              simp [t4, t11, t12, t15, hlt', a5, ex0, hall, htok, u1, u2, h8, q8, hS5, p0, p1, hf, hr, hlt]
end
end Go.Proofs.YtedonhemfhfbaaaGreat.mod

namespace Go.Proofs.YtedonhemfhfbaaaGreat.mod
open Go Go.Am
set_option linter.unusedVariables false
set_option linter.unusedSimpArgs false

theorem Gw.fresh {S : AS} {id sz e : Nat} (hid : S.h.get id = some (.row [] 0 0 false e)) (hlt : id < S.next) : Gw S (.slice id 0 0 0 0 sz (some 0)) sz e [] :=
  ⟨⟨by simp [isSl, capB], rfl, by simp [sLen], by simp [bnd]; omega⟩, .inr ⟨id, 0, 0, 0, 0, some 0, rfl, rfl, hlt, [], 0, 0, hid, Nat.le_refl _, rfl⟩⟩
theorem set_flat {α : Type} {sz : Nat} {enc : α → List AV} (hz : ∀ x, (enc x).length = sz) {d r : List α} {c c' : α} {o : Nat} {x : AV} (ho : o < sz) (hc : (enc c).set o x = enc c') :
    ((d ++ c :: r).flatMap enc).set (d.length * sz + o) x = (d ++ c' :: r).flatMap enc := by
  rw [List.flatMap_append, List.flatMap_append, List.flatMap_cons, List.flatMap_cons]
  have hl : (d.flatMap enc).length = d.length * sz := fm_len hz d
  rw [List.set_append_right _ _ (by omega), hl, Nat.add_sub_cancel_left, List.set_append_left _ _ (by rw [hz]; exact ho), hc]
/-- The head of a round of copied. -/
def copH (S T : AS) (ks : List Con) (q : AV) (k : Nat) (F' : Fr) (S' : AS) : Prop :=
  ∃ done : List Con, Sub S S' ∧ T.next ≤ S'.next ∧ sl F' 3 = q ∧ sl F' 8 = .int .i64 ks.length ∧ sl F' 9 = .int .i64 done.length ∧ k = ks.length - done.length ∧ done.length ≤ ks.length ∧ done.map bare = (ks.take done.length).map bare ∧
    Gw S' q 7 105 ((done ++ ks.drop done.length).flatMap encC) ∧ ∀ c, c ∈ done → ConOk S' c ∧ (bnd c.setv = 0 ∨ T.next < bnd c.setv)
end Go.Proofs.YtedonhemfhfbaaaGreat.mod

namespace Go.Proofs.YtedonhemfhfbaaaGreat.mod
open Go Go.Am
set_option linter.unusedVariables false
set_option linter.unusedSimpArgs false

/-- A book is called. -/
structure Step (S T : AS) (b : Nat) (st st' : Nat → Option SubX) : Prop where
  book : BookAt T b st'
  keep : Keep (bookFoot b st) S T
  foot : ∀ id, bookFoot b st' id → bookFoot b st id ∨ S.next ≤ id
def abst (st : Nat → Option SubX) (i : Nat) : Option SubS := (st i).map (·.x)
def updS {α : Type} (f : Nat → α) (n : Nat) (x : α) (i : Nat) : α := if i = n then x else f i
theorem Step.same {S T : AS} {b : Nat} {st : Nat → Option SubX} (h : BookAt S b st) (hs : Sub S T) : Step S T b st st := ⟨h.toSub hs, hs.keep, fun id hf => .inl hf⟩
section
variable {S : AS} {b : Nat} {st : Nat → Option SubX}
noncomputable def subE (st : Nat → Option SubX) (id : Int) (ks : List Con) : Int :=
  if id < 0 then 1 else if 8 ≤ id then 1 else if mayP ks = false then 30 else if (st id.toNat).isSome then 9 else 0
def sub0 (ks : List Con) : SubS := ⟨ks.map bare, [], [], []⟩
theorem Mp.fresh {S : AS} {id clock : Nat} {enc : Int → AV} (h : S.h.get id = some (.map [] clock)) (hl : id < S.next) : Mp S (.map id) enc (encM []) := ⟨id, [], clock, rfl, hl, h, rfl⟩
noncomputable def subU (U : AS) (t : Nat) (r : AV) : AS := ⟨((U.h.set (t + 1) (.map [] 0)).set t (.map [] 0)).set U.next (.row [r, .nils, .map t, .map (t + 1), .nils] 0 0 false 136), U.next + 1⟩
theorem pX_some {X : SubX} : pX (some X) = .ptr X.s 0 0 5 := rfl
theorem BookAt.put {T U V : AS} {o : Option SubX} {n : Nat} (h : BookAt T b st) (hs : Sub T U) (ho : ∀ X, o = some X → SubM U X ∧ ∀ id, X.foot id → T.next ≤ id) (hV : V = ⟨U.h.set b (.row [.bool true, pX (updS st n o 0), pX (updS st n o 1), pX (updS st n o 2), pX (updS st n o 3), pX (updS st n o 4), pX (updS st n o 5), pX (updS st n o 6), pX (updS st n o 7), .nilp, .nilp, .nilp, .nilp, .nilp, .nilp, .nilp, .nilp] 0 0 false 126), U.next⟩) :
    Step T V b st (updS st n o) := by
  have hne : ∀ i X, st i = some X → ∀ id, X.foot id → id ≠ b := fun i X hX id hf e => h.mine i X hX (e ▸ hf)
  have hbn := h.lt
  have hag : ∀ {X : SubX}, SubM U X → ¬ X.foot b → SubM V X := fun {X} hX hb => hX.agree (fun id hf => by rw [hV]; exact get_set_ne _ _ (fun e => hb (e ▸ hf))) (by rw [hV]; exact Nat.le_refl _)
  refine ⟨⟨by rw [hV]; exact Nat.lt_of_lt_of_le h.lt hs.next, by rw [hV]; exact get_set_same _ _ _, ?_, ?_, ?_⟩, ?_, ?_⟩
  · intro i X hX
    unfold updS at hX
    split at hX
    · obtain ⟨g1, g2⟩ := ho X hX
      exact hag g1 (fun hf => by have := g2 b hf; omega)
    · exact hag ((h.sub i X hX).sub hs) (h.mine i X hX)
  · intro i X hX
    unfold updS at hX
    split at hX
    · obtain ⟨g1, g2⟩ := ho X hX
      exact fun hf => by have := g2 b hf; omega
    · exact h.mine i X hX
  · intro i j X Y hij hX hY id f1 f2
    unfold updS at hX hY
    split at hX <;> split at hY
    · omega
    · have := (ho X hX).2 id f1
      have := (h.sub j Y hY).foot f2
      omega
    · have := (ho Y hY).2 id f2
      have := (h.sub i X hX).foot f1
      omega
    · exact h.apart i j X Y hij hX hY id f1 f2
  · refine ⟨fun id h1 h2 => ?_, by rw [hV]; exact hs.next⟩
    rw [hV]
    have : id ≠ b := fun e => h2 (.inl e)
    show (U.h.set b _).get id = _
    rw [get_set_ne _ _ this]
    exact hs.h id h1
  · intro id hf
    rcases hf with rfl | ⟨i, X, hX, hf⟩
    · exact .inl (.inl rfl)
    · unfold updS at hX
      split at hX
      · exact .inr ((ho X hX).2 id hf)
      · exact .inl (.inr ⟨i, X, hX, hf⟩)
theorem abst_upd {n : Nat} {o : Option SubX} : abst (updS st n o) = updS (abst st) n (o.map (·.x)) := by
  funext i
  unfold abst updS
  split <;> rfl
end
end Go.Proofs.YtedonhemfhfbaaaGreat.mod

namespace Go.Proofs.YtedonhemfhfbaaaGreat.mod
open Go Go.Am
set_option linter.unusedVariables false
set_option linter.unusedSimpArgs false

section
variable {S T : AS} {b : Nat} {st : Nat → Option SubX}
theorem BookAt.turn (h : BookAt S b st) {n : Nat} {X X' : SubX} (hX : st n = some X) (hs : X'.s = X.s) (hM : SubM T X') (hk : Keep X.own S T) (hf : ∀ id, X'.foot id → X.foot id ∨ S.next ≤ id) : Step S T b st (updS st n (some X')) := by
  have hpx : ∀ i, pX (updS st n (some X') i) = pX (st i) := fun i => by
    unfold updS
    split
    · rename_i e; rw [e, hX]; simp [pX, hs]
    · rfl
  have hne : ∀ i Y, i ≠ n → st i = some Y → ∀ id, Y.foot id → ¬ X.own id := fun i Y hi hY id f1 f2 => h.apart i n Y X hi hY hX id f1 (.inl f2)
  have hbk : T.h.get b = S.h.get b := hk.h b h.lt (fun hf => h.mine n X hX (.inl hf))
  refine ⟨⟨Nat.lt_of_lt_of_le h.lt hk.next, ?_, ?_, ?_, ?_⟩, hk.mono (fun id _ ho => .inr ⟨n, X, hX, .inl ho⟩), ?_⟩
  · simp only [hpx]; rw [hbk]; exact h.at_
  · intro i Y hY
    unfold updS at hY
    split at hY
    · cases hY; exact hM
    · rename_i hi
      exact (h.sub i Y hY).agree (fun id hf => hk.h id ((h.sub i Y hY).foot hf) (hne i Y hi hY id hf)) hk.next
  · intro i Y hY
    unfold updS at hY
    split at hY
    · cases hY
      intro hb
      rcases hf b hb with hb | hb
      · exact h.mine n X hX hb
      · have := h.lt; omega
    · exact h.mine i Y hY
  · intro i j Y Z hij hY hZ id f1 f2
    unfold updS at hY hZ
    split at hY <;> split at hZ
    · omega
    · cases hY
      rename_i hi hj
      rcases hf id f1 with g | g
      · exact h.apart n j X Z (fun e => hj e.symm) hX hZ id g f2
      · have := (h.sub j Z hZ).foot f2; omega
    · cases hZ
      rename_i hi hj
      rcases hf id f2 with g | g
      · exact h.apart i n Y X hi hY hX id f1 g
      · have := (h.sub i Y hY).foot f1; omega
    · exact h.apart i j Y Z hij hY hZ id f1 f2
  · intro id hb
    rcases hb with rfl | ⟨i, Y, hY, hg⟩
    · exact .inl (.inl rfl)
    · unfold updS at hY
      split at hY
      · cases hY
        exact (hf id hg).imp (fun g => .inr ⟨n, X, hX, g⟩) (fun g => g)
      · exact .inl (.inr ⟨i, Y, hY, hg⟩)
theorem stAt_some {id : Int} {X : SubX} (h : stAt st id = some X) : ∃ n : Nat, id = n ∧ n < 8 ∧ st n = some X := by
  unfold stAt at h
  split at h
  · cases h
  · split at h
    · cases h
    · exact ⟨id.toNat, by omega, by omega, h⟩
end
end Go.Proofs.YtedonhemfhfbaaaGreat.mod

namespace Go.Proofs.YtedonhemfhfbaaaGreat.mod
open Go Go.Am
set_option linter.unusedVariables false
set_option linter.unusedSimpArgs false

/-! ### Events that go -/
def setState (L : List Kept) (j : Nat) (s : Int) : List Kept := match L[j]? with | some k => L.set j { k with state := s } | none => L
theorem setState_len (L : List Kept) (j : Nat) (s : Int) : (setState L j s).length = L.length := by unfold setState; split <;> simp
theorem setState_get (L : List Kept) (j : Nat) (s : Int) (i : Nat) : (setState L j s)[i]? = (L[i]?).map fun k => if i = j then { k with state := s } else k := by
  unfold setState
  split
  · rename_i k hk
    rw [List.getElem?_set]
    by_cases h : j = i
    · subst h
      have hl := (List.getElem?_eq_some_iff.1 hk).1
      rw [hk]
      simp [hl]
    · have h' : ¬ i = j := fun e => h e.symm
      simp [h, h']
  · rename_i hk
    cases hi : L[i]? with
    | none => rfl
    | some k =>
      have : ¬ i = j := by rintro rfl; rw [hk] at hi; cases hi
      simp [this]
def goneUp (L : List Kept) (fr : Nat) : Nat → List Kept
  | 0 => L
  | n + 1 => setState (goneUp L fr n) (fr - 1 + n) 1
theorem goneUp_len (L : List Kept) (fr n : Nat) : (goneUp L fr n).length = L.length := by
  induction n with
  | zero => rfl
  | succ n ih => rw [goneUp, setState_len, ih]
theorem goneUp_get (L : List Kept) (fr n i : Nat) : (goneUp L fr n)[i]? = (L[i]?).map fun k => if fr - 1 ≤ i ∧ i < fr - 1 + n then { k with state := 1 } else k := by
  induction n with
  | zero =>
    rw [goneUp]
    cases L[i]? with
    | none => rfl
    | some k =>
      have : ¬ (fr - 1 ≤ i ∧ i < fr - 1 + 0) := by omega
      simp only [Option.map_some, if_neg this]
  | succ n ih =>
    rw [goneUp, setState_get, ih]
    cases L[i]? with
    | none => rfl
    | some k =>
      simp only [Option.map_some, Option.some.injEq]
      by_cases h1 : i = fr - 1 + n
      · have h2 : fr - 1 ≤ i ∧ i < fr - 1 + (n + 1) := by omega
        have h3 : ¬ (fr - 1 ≤ i ∧ i < fr - 1 + n) := by omega
        rw [if_pos h1, if_neg h3, if_pos h2]
      · by_cases h2 : fr - 1 ≤ i ∧ i < fr - 1 + n
        · have h3 : fr - 1 ≤ i ∧ i < fr - 1 + (n + 1) := by omega
          rw [if_neg h1, if_pos h2, if_pos h3]
        · have h3 : ¬ (fr - 1 ≤ i ∧ i < fr - 1 + (n + 1)) := by omega
          rw [if_neg h1, if_neg h2, if_neg h3]
def histFoot (h : Nat) (v : AV) (L : List Kept) (id : Nat) : Prop := id = h ∨ bnd v = id + 1 ∨ ∃ k, k ∈ L ∧ bnd k.u = id + 1
section
variable {S T : AS} {h : Nat} {v : AV} {L : List Kept} {dur : Nat}
theorem HistAt.agree (hh : HistAt S h v L dur) (hs : ∀ id, histFoot h v L id → T.h.get id = S.h.get id) (hn : S.next ≤ T.next) : HistAt T h v L dur :=
  ⟨Nat.lt_of_lt_of_le hh.lt hn, by rw [hs h (.inl rfl)]; exact hh.at_, hh.gw.agree (fun id e => hs id (.inr (.inl e))) hn, fun k hk => ⟨(hh.att k hk).sl.agree (fun id e => hs id (.inr (.inr ⟨k, hk, e⟩))) hn, (hh.att k hk).le⟩, hh.apart, hh.self, hh.dur, hh.le⟩
theorem HistAt.foot (hh : HistAt S h v L dur) {id : Nat} (hf : histFoot h v L id) : id < S.next := by
  rcases hf with rfl | e | ⟨k, hk, e⟩
  · exact hh.lt
  · have := hh.gw.1.old; omega
  · have := (hh.att k hk).sl.old; omega
theorem mem_setState {k : Kept} {j : Nat} {s : Int} (h : k ∈ setState L j s) : ∃ k', k' ∈ L ∧ k.time = k'.time ∧ k.key = k'.key ∧ k.u = k'.u ∧ k.atts = k'.atts := by
  obtain ⟨i, hi⟩ := List.mem_iff_getElem?.1 h
  rw [setState_get] at hi
  cases hL : L[i]? with
  | none => rw [hL] at hi; cases hi
  | some k' =>
    rw [hL] at hi
    simp only [Option.map_some, Option.some.injEq] at hi
    refine ⟨k', List.mem_of_getElem? hL, ?_⟩
    subst hi
    split <;> exact ⟨rfl, rfl, rfl, rfl⟩
theorem HistAt.turn (hh : HistAt S h v L dur) {j : Nat} (hj : j < L.length) (s : Int) : ∃ T, wrV S (addP (pAt v j) 3) [.int .i64 s] = some T ∧ HistAt T h v (setState L j s) dur ∧ (∀ id, id + 1 ≠ bnd v → T.h.get id = S.h.get id) ∧ T.next = S.next := by
  obtain ⟨T, e, hg, hs, hn⟩ := hh.gw.putc (x := .int .i64 s) (i := j) (o := 3) (by rw [hh.len]; exact hj) (by omega)
  refine ⟨T, e, ?_, hs, hn⟩
  have hk : L[j]? = some (L[j]'hj) := List.getElem?_eq_getElem hj
  have hcs : (L.flatMap encK).set (j * 4 + 3) (.int .i64 s) = (setState L j s).flatMap encK := by
    unfold setState
    rw [hk]
    simp only
    have hspl : L = L.take j ++ L[j] :: L.drop (j + 1) := by
      rw [← List.drop_eq_getElem_cons hj, List.take_append_drop]
    have hset : L.set j { L[j] with state := s } = L.take j ++ { L[j] with state := s } :: L.drop (j + 1) := by rw [List.set_eq_take_append_cons_drop, if_pos hj]
    rw [hset]
    have := set_flat (enc := encK) encK_len (d := L.take j) (r := L.drop (j + 1)) (c := L[j]) (c' := { L[j] with state := s }) (o := 3) (x := .int .i64 s) (by omega) rfl
    rw [List.length_take, Nat.min_eq_left (by omega), ← hspl] at this
    exact this
  rw [hcs] at hg
  have hun : ∀ k, k ∈ setState L j s → ∃ k', k' ∈ L ∧ k.u = k'.u ∧ k.atts = k'.atts := fun k hk => by
    obtain ⟨k', h1, _, _, h2, h3⟩ := mem_setState hk
    exact ⟨k', h1, h2, h3⟩
  refine ⟨by rw [hn]; exact hh.lt, by rw [hs h (fun e => hh.self e.symm)]; exact hh.at_, hg, ?_, ?_, hh.self, by rw [setState_len]; exact hh.dur, by rw [setState_len]; exact hh.le⟩
  · intro k hk
    obtain ⟨k', h1, h2, h3⟩ := hun k hk
    rw [h2, h3]
    refine ⟨(hh.att k' h1).sl.agree (fun id e => hs id ?_) (by omega), (hh.att k' h1).le⟩
    rcases (hh.apart k' h1).2 with h | h <;> omega
  · intro k hk
    obtain ⟨k', h1, h2, h3⟩ := hun k hk
    rw [h2]
    exact hh.apart k' h1
theorem mem_goneUp {k : Kept} {fr n : Nat} (h : k ∈ goneUp L fr n) : ∃ k', k' ∈ L ∧ k.time = k'.time ∧ k.key = k'.key ∧ k.u = k'.u ∧ k.atts = k'.atts := by
  obtain ⟨i, hi⟩ := List.mem_iff_getElem?.1 h
  rw [goneUp_get] at hi
  cases hL : L[i]? with
  | none => rw [hL] at hi; cases hi
  | some k' =>
    rw [hL] at hi
    simp only [Option.map_some, Option.some.injEq] at hi
    refine ⟨k', List.mem_of_getElem? hL, ?_⟩
    subst hi
    split <;> exact ⟨rfl, rfl, rfl, rfl⟩
theorem goneUp_foot {fr n : Nat} {id : Nat} : histFoot h v (goneUp L fr n) id → histFoot h v L id := by
  rintro (e | e | ⟨k, hk, e⟩)
  · exact .inl e
  · exact .inr (.inl e)
  · obtain ⟨k', h1, _, _, h2, _⟩ := mem_goneUp hk
    exact .inr (.inr ⟨k', h1, by rw [← h2]; exact e⟩)
end

/-! ### A delivery is told -/
def tellS (x : SubS) (pub : Int) (to : Nat) : SubS := { x with next := nput x.next pub (to + 1), told := x.told ++ [(pub, to)] }
theorem un134' : und C0 134 = some (.slice 157) := by kernel_rfl
theorem bld157 (a b : Int) : buildA C0 157 [(0, .int .i64 a), (1, .int .u64 b)] = some (.agg [.int .i64 a, .int .u64 b]) := by kernel_rfl
/-- The memory behind what is told of a subscription. -/
theorem tell_sub {S : AS} {X : SubX} (hX : SubM S X) (pub : Int) {to : Nat} (h1 : 1 ≤ to) (h2 : to ≤ 1048576) (h8 : X.x.told.length < 8) :
    ∃ U tv V W, updateV C0 S 133 X.nm (.int .i64 pub) (.int .u64 ((to : Int) + 1)) = some (.undef, U) ∧
      U.h.get X.s = S.h.get X.s ∧ U.next = S.next ∧
      builtinV C0 ⟨U.h.set U.next (.row [.int .i64 pub, .int .u64 to] 0 0 false 157), U.next + 1⟩ .append [134, 134] [X.tv, .slice U.next 0 0 1 2 2 (some 1)] = .val tv V ∧
      V.h.get X.s = some (.row [X.p, .nils, X.cm, X.nm, X.tv] 0 0 false 136) ∧ cellsOf tv = some [tv] ∧ isPanB tv = false ∧
      W = ⟨V.h.set X.s (.row [X.p, .nils, X.cm, X.nm, tv] 0 0 false 136), V.next⟩ ∧ SubM W { X with tv := tv, x := tellS X.x pub to } ∧ Keep X.own S W ∧ ∀ id, SubX.foot { X with tv := tv, x := tellS X.x pub to } id → X.foot id ∨ S.next ≤ id := by
  obtain ⟨U, e1, hm, hU, hUn⟩ := update_mp (cx := C0) (t := 133) (k := pub) (v := .int .u64 ((to + 1 : Nat) : Int)) mk133 (keyInt .i64 .i64) hX.next
  rw [mput_encM] at hm
  rw [show ((to + 1 : Nat) : Int) = (to : Int) + 1 by simp] at e1
  have hs2 : (X.x.told.flatMap encT ++ [.int .i64 pub, .int .u64 to]) = ((X.x.told ++ [(pub, to)]).flatMap encT) := by simp [encT]
  obtain ⟨l1, l2⟩ := hX.told_len
  have htU : Gw U X.tv 2 157 (X.x.told.flatMap encT) := hX.told.agree (fun id e => hU id (by have := hX.a6; omega)) (by omega)
  have hold := htU.1.old
  have htU1 : Gw (⟨U.h.set U.next (.row [.int .i64 pub, .int .u64 to] 0 0 false 157), U.next + 1⟩ : AS) X.tv 2 157 (X.x.told.flatMap encT) := htU.agree (fun id e => get_set_ne _ _ (by omega)) (Nat.le_succ _)
  have hx : Sl (⟨U.h.set U.next (.row [.int .i64 pub, .int .u64 to] 0 0 false 157), U.next + 1⟩ : AS) (.slice U.next 0 0 1 2 2 (some 1)) 2 [.int .i64 pub, .int .u64 to] :=
    ⟨by simp [isSl, capB], by simp [rdS, rd_at], by simp [sLen], by simp [bnd]⟩
  obtain ⟨tv, V, e2, r1, r2, r3, r4, r5, r6, r7⟩ := append_gw (ts := []) (u := 134) (p := (157, 2, 16)) st134 un134' rfl htU1 hx (by rw [l2]; simp [fits, nble, sLen_slice]; omega)
  simp only at r1
  rw [hs2] at r1
  have hVS : ∀ id, id < S.next → id + 1 ≠ bnd X.tv → id + 1 ≠ bnd X.nm → V.h.get id = S.h.get id := fun id i1 i2 i3 => by
    rw [r2 id (by show id < U.next + 1; omega) i2]
    show (U.h.set _ _).get id = _
    rw [get_set_ne _ _ (by omega)]
    exact hU id (fun e => i3 e.symm)
  have hVn : S.next + 1 ≤ V.next := by rw [← hUn]; exact r3
  have hVs : V.h.get X.s = some (.row [X.p, .nils, X.cm, X.nm, X.tv] 0 0 false 136) := by rw [hVS _ hX.lt hX.a3 hX.a2]; exact hX.at_
  have htb : bnd tv = bnd X.tv ∨ S.next < bnd tv := by
    rcases r6 with h | h
    · exact .inl h
    · right
      have h' : U.next + 1 < bnd tv := h
      omega
  have htv := r1.1.old
  have b1 := hX.lt
  have b2 := Mp.lt hX.cur
  have b3 := Mp.lt hX.next
  have ft : ∀ id, SubX.foot { X with tv := tv, x := tellS X.x pub to } id → X.foot id ∨ S.next ≤ id := fun id hf => by
    rcases hf with (h | h | h | h) | h
    · exact .inl (.inl (.inl h))
    · exact .inl (.inl (.inr (.inl h)))
    · exact .inl (.inl (.inr (.inr (.inl h))))
    · simp only at h
      rcases htb with h' | h'
      · exact .inl (.inl (.inr (.inr (.inr (by rw [← h']; exact h)))))
      · right; omega
    · exact .inl (.inr h)
  have a1 := hX.a1
  have a2 := hX.a2
  have a3 := hX.a3
  have a4 := hX.a4
  have a5 := hX.a5
  have a6 := hX.a6
  have hWg : ∀ id, id ≠ X.s → (V.h.set X.s (.row [X.p, .nils, X.cm, X.nm, tv] 0 0 false 136)).get id = V.h.get id := fun id hne => get_set_ne _ _ hne
  refine ⟨U, tv, V, _, e1, hU _ (by omega), hUn, e2, hVs, r1.1.cells, r1.1.np, rfl, ⟨by show X.s < V.next; omega, get_set_same _ _ _, ?_, hX.bare, ?_, ?_, ?_, a1, a2, ?_, a4, ?_, ?_, ?_, ?_, hX.n2, ?_, ?_, r7 (by simp [sLen_slice])⟩, ⟨?_, by show S.next ≤ V.next; omega⟩, ft⟩
  · refine hX.pred.agree (fun id hf => ?_) (by show S.next ≤ V.next; omega)
    have hp := hX.pf id hf
    have hlt := hX.pred.foot hf
    show (V.h.set _ _).get id = _
    rw [hWg id (fun e => hp (.inl (by omega)))]
    exact hVS id hlt (fun e => hp (.inr (.inr (.inr e)))) (fun e => hp (.inr (.inr (.inl e))))
  · refine Mp.agree hX.cur (fun id e => ?_) (by show S.next ≤ V.next; omega)
    have e : bnd X.cm = id + 1 := e
    show (V.h.set _ _).get id = _
    rw [hWg id (by omega)]
    exact hVS id (by omega) (by omega) (by omega)
  · refine Mp.agree hm (fun id e => ?_) (by show U.next ≤ V.next; omega)
    have e : bnd X.nm = id + 1 := e
    show (V.h.set _ _).get id = _
    rw [hWg id (by omega), r2 id (by show id < U.next + 1; omega) (by omega)]
    exact get_set_ne _ _ (by omega)
  · refine r1.agree (fun id e => ?_) (Nat.le_refl _)
    have e : bnd tv = id + 1 := e
    exact hWg id (by rcases htb with h | h <;> omega)
  · simp only; rcases htb with h | h <;> omega
  · simp only; rcases htb with h | h <;> omega
  · simp only; rcases htb with h | h <;> omega
  · intro id hf
    have hp := hX.pf id hf
    have hlt := hX.pred.foot hf
    rintro (h | h | h | h)
    · exact hp (.inl h)
    · exact hp (.inr (.inl h))
    · exact hp (.inr (.inr (.inl h)))
    · simp only at h
      rcases htb with h' | h'
      · exact hp (.inr (.inr (.inr (by rw [← h']; exact h))))
      · omega
  · intro t ht
    simp only [tellS] at ht
    rcases List.mem_append.1 ht with ht | ht
    · exact hX.n1 t ht
    · simp at ht; subst ht; exact ⟨h1, h2⟩
  · intro t ht
    simp only [tellS] at ht
    rcases nput_mem ht with rfl | ht
    · simp only; omega
    · exact hX.n3 t ht
  · simp only [tellS, List.length_append, List.length_singleton]; omega
  · intro id hi ho
    show (V.h.set _ _).get id = _
    rw [hWg id (fun e => ho (.inl (by omega)))]
    exact hVS id hi (fun e => ho (.inr (.inr (.inr e)))) (fun e => ho (.inr (.inr (.inl e))))
end Go.Proofs.YtedonhemfhfbaaaGreat.mod

namespace Go.Proofs.YtedonhemfhfbaaaGreat.mod
open Go Go.Am
set_option linter.unusedVariables false
set_option linter.unusedSimpArgs false

theorem freshV_el1 {cx : Am.Cx} {F : Fr} {t : TypeId} {p : Nat × Nat × Nat} {id : Nat} {x : Tmp} {cs : List AV} (h : slT cx t = some p) (hx : sl F x = .agg cs) (hl : cs.length = p.2.1) (hn : p.2.1 ≤ 16777216) :
    freshV cx F id (.buildSlice t 1 #[(0, .tmp x)]) = some (.slice id 0 0 1 (1 * p.2.1) p.2.1 (some 1), .row cs 0 0 false p.1) := by
  have := freshV_els (cx := cx) (F := F) (t := t) (p := p) (id := id) (n := 1) (a := #[(0, .tmp x)]) [cs] h rfl (by simp [eval_tmp, hx, cellsOf]) (by simp [hl]) (by omega)
  simpa using this
def aggN (n : Nat) (v : AV) : Option (List AV) := match v with | .agg cs => if cs.length = n then some cs else none | _ => none
@[simp] theorem aggN_agg {n : Nat} {cs : List AV} : aggN n (.agg cs) = if cs.length = n then some cs else none := rfl
@[simp] theorem freshV_elN {cx : Am.Cx} {F : Fr} {t : TypeId} {p : Nat × Nat × Nat} {id : Nat} {x : Tmp} {v : AV} {cs : List AV} (h : slT cx t = some p) (hx : sl F x = v) (hv : aggN p.2.1 v = some cs) (hn : p.2.1 ≤ 16777216) :
    freshV cx F id (.buildSlice t 1 #[(0, .tmp x)]) = some (.slice id 0 0 1 (1 * p.2.1) p.2.1 (some 1), .row cs 0 0 false p.1) := by
  unfold aggN at hv
  split at hv
  · split at hv
    · cases hv
      exact freshV_el1 h hx (by assumption) hn
    · cases hv
  · cases hv
def goneL (L : List Kept) (d : Dlv) : List Kept := if d.gap = true then goneUp L d.fr (d.to + 1 - d.fr) else L
section
variable {S : AS} {b h : Nat} {v : AV} {L : List Kept} {dur : Nat} {st : Nat → Option SubX}
theorem fits0 {o : Option SubX} {pub : Int} {d : Dlv} (h : fitsV o L dur pub d = 0) : ∃ X, o = some X ∧ formedB d = true ∧ rightB L dur X.x.cs d = true ∧ nextN X.x pub ≤ spanF d ∧ anyM L X.x.cs (nextN X.x pub) (spanF d) = false ∧ X.x.told.length < 8 ∧ 0 ≤ pub ∧ pub < 256 := by
  unfold fitsV at h
  cases o with
  | none => cases h
  | some X =>
    simp only at h
    unfold fitsN at h
    split at h
    · cases h
    split at h
    · cases h
    split at h
    · cases h
    split at h
    · cases h
    split at h
    · cases h
    split at h
    · cases h
    split at h
    · cases h
    rename_i g1 g2 g3 g4 g5 g6 g7
    exact ⟨X, rfl, by simpa using g3, by simpa using g4, by omega, by simpa using g6, by omega, by omega, by omega⟩
theorem right_to {cs : List Con} {d : Dlv} (h : rightB L dur cs d = true) : spanT d ≤ dur := by
  unfold rightB at h
  simp only [Bool.and_eq_true, decide_eq_true_eq] at h
  exact h.1
/-- The head of a round of Tell. -/
def telH (S : AS) (h : Nat) (v : AV) (L : List Kept) (dur : Nat) (fr to : Nat) (pub : AV) (s : AV) (k : Nat) (F' : Fr) (S' : AS) : Prop :=
  ∃ i : Nat, Keep (fun id => bnd v = id + 1) S S' ∧ HistAt S' h v (goneUp L fr (i - fr)) dur ∧ sl F' 4 = .ptr h 0 0 3 ∧ sl F' 2 = pub ∧ sl F' 10 = s ∧ sl F' 12 = .int .u64 to ∧ sl F' 13 = .int .u64 i ∧ fr ≤ i ∧ i ≤ to + 1 ∧ k = to + 1 - i
theorem telH_mk {S : AS} {h : Nat} {v : AV} {L : List Kept} {dur : Nat} {fr to : Nat} {pub : AV} {s : AV} {k : Nat} {F' : Fr} {S' : AS} (i : Nat) (h1 : Keep (fun id => bnd v = id + 1) S S') (h2 : HistAt S' h v (goneUp L fr (i - fr)) dur) (h3 : sl F' 4 = .ptr h 0 0 3)
    (h4 : sl F' 2 = pub) (h5 : sl F' 10 = s) (h6 : sl F' 12 = .int .u64 to) (h7 : sl F' 13 = .int .u64 i) (h8 : fr ≤ i) (h9 : i ≤ to + 1) (h10 : k = to + 1 - i) : telH S h v L dur fr to pub s k F' S' := ⟨i, h1, h2, h3, h4, h5, h6, h7, h8, h9, h10⟩
theorem nt17 : Tryz.f17.ntmps = 69 := by kernel_rfl
set_option maxRecDepth 20000 in
theorem tell_yes (hb : BookAt S b st) (hh : HistAt S h v L dur) (id pub : Int) (d : Dlv) (hd : AttsAt S d.u d.atts) (hD : ∀ i, bookFoot b st i → histFoot h v L i → False) (hf : fitsV (stAt st id) L dur pub d = 0) :
    CallW C0 17 [.ptr b 0 0 17, .int .i64 id, .int .i64 pub, .agg (encD d), .ptr h 0 0 3] S fun r T => ∃ X tv S1, stAt st id = some X ∧ Keep (fun i => d.gap = true ∧ bnd v = i + 1) S S1 ∧ HistAt S1 h v (goneL L d) dur ∧ BookAt S1 b st ∧
      Step S1 T b st (updS st id.toNat (some { X with tv := tv, x := tellS X.x pub (spanT d) })) ∧ HistAt T h v (goneL L d) dur := by
  have h1 : Sub S ⟨S.h.set S.next (.row (encD d) 0 0 false 48), S.next + 1⟩ := sub1
  obtain ⟨r, T, ⟨rfl, hT⟩, e1⟩ := (fits16 (hb.toSub h1) (hh.sub h1) id pub d (hd.sub h1)).ex
  rw [hf] at e1
  have hu := hd.sl.cells
  obtain ⟨X, hst, hfm, hrt, hnx, hany, h8, hp0, hp1⟩ := fits0 hf
  have hto := right_to hrt
  have hsp := spanF_pos hfm
  have hdl := hh.dur
  have hle := hh.le
  obtain ⟨n, rfl, hn8, hX⟩ := stAt_some hst
  have hS1 := h1.trans hT
  have hbT := hb.toSub hS1
  have g1 : T.h.get S.next = some (.row (encD d) 0 0 false 48) := by rw [hT.h _ (Nat.lt_succ_self _)]; exact get_set_same _ _ _
  obtain ⟨r, T2, ⟨rfl, hT2⟩, e2⟩ := (span82 d (hd.sub hS1)).ex
  have g2 : T2.h.get S.next = some (.row (encD d) 0 0 false 48) := by rw [hT2.h _ hT.next]; exact g1
  have hS2 := hS1.trans hT2
  have hb2 := hb.toSub hS2
  have hh2 := hh.sub hS2
  have hw1 : IntKind.u64.wrap ((spanT d : Nat) + 1 : Int) = ((spanT d + 1 : Nat) : Int) := by rw [u64_succ (by omega)]; simp
  refine enterW (pu0 _) (pr0 _ rfl) fn17 rfl ok17 (by simp) fun F hn hs => ?_
  rw [nt17] at hn
  have s0 := hs 0
  have s1 := hs 1
  have s2 := hs 2
  have s3 := hs 3
  have s4 := hs 4
  clear hs
  simp only [List.getElem?_cons_zero, List.getElem?_cons_succ, Option.getD_some, encD] at s0 s1 s2 s3 s4 e1 e2 g1 g2
  have hld : loadT C0 T 121 (.ptr b 0 (1 + n) 17) = some (.ptr X.s 0 0 5) := by
    rcases lt8 hn8 with rfl | rfl | rfl | rfl | rfl | rfl | rfl | rfl <;> simp [loadT_ptr, hbT.at_, hX, pX_some]
  cases hg : d.gap with
  | false =>
    have hg2 : (decide (d.fr = 0) && decide (d.to = 0)) = true := by unfold Dlv.gap at hg; simpa using hg
    simp only [Bool.and_eq_true, decide_eq_true_eq] at hg2
    obtain ⟨z1, z2⟩ := hg2
    simp only [z1, z2, Int.ofNat_zero] at s3 e1 e2 g1 g2
    have hX2 := hb2.sub n X hX
    obtain ⟨U, tv, V, W, e3, k1, k2, e4, k3, k4, k5, rfl, k6, k7, k8⟩ := tell_sub hX2 pub (by omega) (show spanT d ≤ 1048576 by omega) h8
    have hgl : goneL L d = L := by unfold goneL; rw [hg]; rfl
    rw [hgl]
    have q8 : (n : Int) < 8 := by omega
    have hstep := hb2.turn (X' := { X with tv := tv, x := tellS X.x pub (spanT d) }) hX rfl k6 k7 k8
    have hhT : HistAt _ h v L dur := hh2.agree (T := ⟨V.h.set X.s (.row [X.p, .nils, X.cm, X.nm, tv] 0 0 false 136), V.next⟩) (fun i hi => k7.h i (hh2.foot hi) (fun ho => hD i (.inr ⟨n, X, hX, .inl ho⟩) hi)) k7.next
    have hnm : okW X.nm = true := by obtain ⟨i, _, _, h, _⟩ := hX2.next; rw [h]; rfl
    rw [hX2.at_] at k1
    rw [k2] at e4
    simp [s0, s1, s2, s3, s4, hu, e1, e2, g1, g2, ex0, hld, q8, bld46z, bne46, hX2.at_, hnm, hw1, e3, k1, k2, e4, k3, k4, k5, bld157, okW_of hX2.told.1.ok]
    exact ⟨X, hst, tv, T2, hS2.keep, hh2, hb2, hstep, hhT⟩
  | true =>
    have hg2 : (decide (d.fr = 0) && decide (d.to = 0)) = false := by unfold Dlv.gap at hg; cases hx : (decide (d.fr = 0) && decide (d.to = 0)) <;> rw [hx] at hg <;> first | rfl | cases hg
    have hsF : spanF d = d.fr := by unfold spanF; rw [hg]; rfl
    have hsT : spanT d = d.to := by unfold spanT; rw [hg]; rfl
    rw [hsF] at e2 hsp
    rw [hsT] at e2 hsp hto hw1
    have hz0 : ¬ d.fr = 0 := by omega
    have q8 : (n : Int) < 8 := by omega
    have hgl : goneL L d = goneUp L d.fr (d.to + 1 - d.fr) := by unfold goneL; rw [hg]; rfl
    rw [hgl]
    simp [s0, s1, s2, s3, s4, hu, e1, e2, g1, g2, ex0, hld, q8, bld46z, bne46, hz0]
    refine loopP_of (telH T2 h v L dur d.fr d.to (.int .i64 pub) (.ptr X.s 0 0 5)) (d.to + 1 - d.fr) (telH_mk d.fr Keep.refl (by simpa [goneUp] using hh2) (by simp [s4]) (by simp [s2]) (by simp) (by simp) (by simp) (Nat.le_refl _) (by omega) rfl) ?_
    rintro k F' S' hn' ⟨i, hk1, hk2, t4, t2, t10, t12, t13, hi1, hi2, hk⟩
    have hn2 : F'.n = 69 := by rw [hn']; simp [hn]
    clear hn' s0 s1 s2 s3 s4 hn
    have u1 := hk2.gw.1.sl
    have u2 := hk2.len
    rw [goneUp_len] at u2
    by_cases hc : i ≤ d.to
    · have hj : i - 1 < L.length := by omega
      obtain ⟨T', e3, hk3, hst', hn3⟩ := hk2.turn (j := i - 1) (by rw [goneUp_len]; exact hj) 1
      have hw2 : IntKind.u64.wrap ((i : Int) - 1) = ((i - 1 : Nat) : Int) := by
        have := u64_nat (n := i - 1) (by omega)
        rw [show ((i : Int) - 1) = ((i - 1 : Nat) : Int) by omega]; exact this
      have hw3 : IntKind.u64.wrap ((i : Int) + 1) = ((i + 1 : Nat) : Int) := by rw [u64_succ (by omega)]; simp
      have hpp := isP_pAt (k := i - 1) u1 (by rw [u2]; exact hj)
      have hgo : setState (goneUp L d.fr (i - d.fr)) (i - 1) 1 = goneUp L d.fr (i + 1 - d.fr) := by
        rw [show i + 1 - d.fr = (i - d.fr) + 1 by omega, goneUp, show d.fr - 1 + (i - d.fr) = i - 1 by omega]
      rw [hgo] at hk3
      simp [t4, t2, t10, t12, t13, hc, hk2.at_, u1, u2, hw2, hj, fieldP_add hpp, e3]
      exact ⟨d.to + 1 - (i + 1), by omega, telH_mk (i + 1) (hk1.trans ⟨fun id _ ha => hst' id (fun e => ha e.symm), by omega⟩) hk3 (by simp [t4]) (by simp [t2]) (by simp [t10]) (by simp [t12]) (by simp [hw3]) (by omega) (by omega) rfl⟩
    · have hie : i = d.to + 1 := by omega
      rw [hie] at hk2
      have hbS : BookAt S' b st := hb2.agree (fun id hf => hk1.h id (hb2.foot hf) (fun e => hD id hf (.inr (.inl e)))) hk1.next
      have hXS := hbS.sub n X hX
      obtain ⟨U, tv, V, W, e3, k1, k2, e4, k3, k4, k5, rfl, k6, k7, k8⟩ := tell_sub hXS pub (by omega) (show d.to ≤ 1048576 by omega) h8
      have hstep := hbS.turn (X' := { X with tv := tv, x := tellS X.x pub d.to }) hX rfl k6 k7 k8
      have hhT : HistAt _ h v _ dur := hk2.agree (T := ⟨V.h.set X.s (.row [X.p, .nils, X.cm, X.nm, tv] 0 0 false 136), V.next⟩) (fun i hi => k7.h i (hk2.foot hi) (fun ho => hD i (.inr ⟨n, X, hX, .inl ho⟩) (goneUp_foot hi))) k7.next
      have hnm : okW X.nm = true := by obtain ⟨i, _, _, h, _⟩ := hXS.next; rw [h]; rfl
      rw [hXS.at_] at k1
      rw [k2] at e4
      simp [t4, t2, t10, t12, t13, hc, hXS.at_, hnm, hw1, e3, k1, k2, e4, k3, k4, k5, bld157, okW_of hXS.told.1.ok]
      exact ⟨X, hst, tv, S', (hS2.keep (A := fun _ => False)).mono (fun _ _ h => h.elim) |>.trans (hk1.mono (fun _ _ h => h)), hk2, hbS, by rw [hsT]; exact hstep, hhT⟩
end
end Go.Proofs.YtedonhemfhfbaaaGreat.mod
