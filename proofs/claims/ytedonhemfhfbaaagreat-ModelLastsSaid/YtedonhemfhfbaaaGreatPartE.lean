/-
  Cells of a slice are written anew, cleared, cut off.
  slices.Contains, slices.DeleteFunc of what was told.
  slices.DeleteFunc.
  Ack.
  Publish; a new book.
  A history of events, all durable.
  An event of one number; Tell of an item.
  What one call of ModelOwn does to a book.
  ModelOwn: two books.
  The last bit of a number.
-/
import Derived.Test.YtedonhemfhfbaaaGreatPartC
namespace Go.Proofs.YtedonhemfhfbaaaGreat.mod
open Go Go.Am
set_option linter.unusedVariables false
set_option linter.unusedSimpArgs false

end Go.Proofs.YtedonhemfhfbaaaGreat.mod

namespace Go.Proofs.YtedonhemfhfbaaaGreat.mod
open Go Go.Am
set_option linter.unusedVariables false
set_option linter.unusedSimpArgs false

def idyH (S : AS) (u : AV) (b : Nat) (l : List (Int × Nat)) (y : Int × Nat) (k : Nat) (F' : Fr) (S' : AS) : Prop :=
  ∃ i : Nat, S' = S ∧ sl F' 0 = u ∧ sl F' 3 = .ptr b 0 0 2 ∧ sl F' 7 = .int .i64 l.length ∧ sl F' 8 = .int .i64 i ∧ i ≤ l.length ∧ k = l.length - i ∧ ∀ x, x ∈ l.take i → decide (y = x) = false
end Go.Proofs.YtedonhemfhfbaaaGreat.mod

namespace Go.Proofs.YtedonhemfhfbaaaGreat.mod
open Go Go.Am
set_option linter.unusedVariables false
set_option linter.unusedSimpArgs false

def keepF {α : Type} (P : α → Bool) (l : List α) : List α := l.filter fun x => !P x
/-- The head of a round. -/
def delH (S : AS) (u g : AV) (l : List (Int × Nat)) (P : Int × Nat → Bool) (k : Nat) (F' : Fr) (S' : AS) : Prop :=
  ∃ (i j : Nat) (M : List (Int × Nat)), Keep (fun id => bnd u = id + 1) S S' ∧ Gw S' u 2 157 (M.flatMap encT) ∧ M.length = l.length ∧ M.take i = keepF P (l.take j) ∧ M.drop j = l.drop j ∧ sl F' 0 = u ∧ sl F' 1 = g ∧ sl F' 5 = .int .i64 i ∧ sl F' 6 = .int .i64 j ∧ i < j ∧ j ≤ l.length ∧ k = l.length - j
@[simp] theorem ne157 : zeroOf C0 157 = some (.agg [.int .i64 0, .int .u64 0]) := by kernel_rfl
end Go.Proofs.YtedonhemfhfbaaaGreat.mod

namespace Go.Proofs.YtedonhemfhfbaaaGreat.mod
open Go Go.Am
set_option linter.unusedVariables false
set_option linter.unusedSimpArgs false

def ackP (pub : Int) (n : Nat) (t : Int × Nat) : Bool := decide (t.1 = pub) && decide (t.2 ≤ n)
def ackS (x : SubS) (pub : Int) (n : Nat) : SubS := { x with cur := nput x.cur pub n, told := keepF (ackP pub n) x.told }
def ackE (o : Option SubX) (pub : Int) (n : Nat) : Int := match o with | none => 6 | some X => if (X.x.told.any fun x => decide ((pub, n) = x)) = true then 0 else 35
section
variable {S : AS} {b : Nat} {st : Nat → Option SubX}
end
end Go.Proofs.YtedonhemfhfbaaaGreat.mod

namespace Go.Proofs.YtedonhemfhfbaaaGreat.mod
open Go Go.Am
set_option linter.unusedVariables false
set_option linter.unusedSimpArgs false

theorem bld142 {S : AS} {u : AV} {cs : List AV} (h : Sl S u 5 cs) (k : List Nat) (t : Int) : buildA C0 142 [(0, .int .u64 t), (1, .agg [.str k, u]), (2, .int .i64 0)] = some (.agg [.int .u64 t, .str k, u, .int .i64 0]) := by
  rcases h.cases with rfl | ⟨_, _, _, _, _, _, rfl⟩ <;> kernel_rfl
theorem nt29 : Tryz.f29.ntmps = 32 := by kernel_rfl
theorem okW_sl {S : AS} {v : AV} {sz : Nat} {cs : List AV} (h : Sl S v sz cs) : okW v = true := okW_of h.ok
set_option maxRecDepth 20000 in
theorem publish29 {S : AS} {h : Nat} {v u : AV} {L : List Kept} {dur t : Nat} {key : List Nat} {atts : List Att} (hh : HistAt S h v L dur) (hu : AttsAt S u atts) (hl : L.length < 1048576) :
    CallW C0 29 [.ptr h 0 0 3, .int .u64 t, .agg [.str key, u]] S fun r T => r = .int .u64 ((L.length : Int) + 1) ∧ ∃ v' u', HistAt T h v' (L ++ [⟨t, key, u', atts, 0⟩]) dur ∧ Keep (fun id => id = h ∨ bnd v = id + 1) S T ∧
      ∀ id, histFoot h v' (L ++ [⟨t, key, u', atts, 0⟩]) id → histFoot h v L id ∨ S.next ≤ id := by
  have h1 : Sub S ⟨S.h.set S.next (.row [.str key, u] 0 0 false 40), S.next + 1⟩ := sub1
  have hh1 := hh.sub h1
  have hu1 := hu.sub h1
  obtain ⟨u', T, ⟨hT, k2, k1, k3, k4⟩, e1⟩ := (clone75 hu1.sl (by rw [hu1.sl.len_flat encA_len (by omega)]; have := hu.le; omega)).ex
  have hS := h1.trans hT
  have hhT := hh.sub hS
  have hTn : S.next + 1 ≤ T.next := hT.next
  have hk4 : bnd u' = 0 ∨ S.next + 1 < bnd u' := k4
  have kold := k2.old
  have gold := hh.gw.1.old
  have hxs : Sl (⟨T.h.set T.next (.row [.int .u64 t, .str key, u', .int .i64 0] 0 0 false 142), T.next + 1⟩ : AS) (.slice T.next 0 0 1 4 4 (some 1)) 4 [.int .u64 t, .str key, u', .int .i64 0] :=
    ⟨by simp [isSl, capB], by simp [rdS, rd_at], by simp [sLen], by simp [bnd]⟩
  have hgT : Gw (⟨T.h.set T.next (.row [.int .u64 t, .str key, u', .int .i64 0] 0 0 false 142), T.next + 1⟩ : AS) v 4 142 (L.flatMap encK) := hhT.gw.agree (fun id e => get_set_ne _ _ (by omega)) (Nat.le_succ _)
  have hlen := hh.len
  obtain ⟨v', V, e2, r1, r2, r3, r4, r5, r6, r7⟩ := append_gw (ts := []) (u := 138) (p := (142, 4, 56)) st138 un138 rfl hgT hxs (by rw [hlen]; simp [fits, nble, sLen_slice]; omega)
  simp only at r1
  have hs2 : (L.flatMap encK ++ [.int .u64 t, .str key, u', .int .i64 0]) = ((L ++ [(⟨t, key, u', atts, 0⟩ : Kept)]).flatMap encK) := by simp [encK]
  rw [hs2] at r1
  have hlt := hh.lt
  have hself := hh.self
  have hVS : ∀ id, id < T.next → id + 1 ≠ bnd v → V.h.get id = T.h.get id := fun id i1 i2 => by
    rw [r2 id (by show id < T.next + 1; omega) i2]
    exact get_set_ne _ _ (by omega)
  have hVn : T.next + 1 ≤ V.next := r3
  have hVh : V.h.get h = some (.row [.bool true, v, .int .i64 dur] 0 0 false 140) := by rw [hVS h (by omega) (fun e => hself e.symm)]; exact hhT.at_
  have hvb : bnd v' = bnd v ∨ T.next + 1 < bnd v' := r6
  have hWg : ∀ id, id ≠ h → (V.h.set h (.row [.bool true, v', .int .i64 dur] 0 0 false 140)).get id = V.h.get id := fun id hne => get_set_ne _ _ hne
  have hw : IntKind.u64.wrap (((L.length + 1 : Nat) : Int)) = (L.length : Int) + 1 := by rw [u64_nat (by omega)]; simp
  have u1 := hh.gw.1.sl
  have w1 := r1.1.sl
  have w2 : sLen v' = L.length + 1 := by rw [r4, hlen]; rfl
  have fin : ∀ W : AS, W = ⟨V.h.set h (.row [.bool true, v', .int .i64 dur] 0 0 false 140), V.next⟩ → HistAt W h v' (L ++ [⟨t, key, u', atts, 0⟩]) dur ∧ Keep (fun id => id = h ∨ bnd v = id + 1) S W ∧
      ∀ id, histFoot h v' (L ++ [⟨t, key, u', atts, 0⟩]) id → histFoot h v L id ∨ S.next ≤ id := by
    rintro W rfl
    refine ⟨⟨by show h < V.next; omega, get_set_same _ _ _, ?_, ?_, ?_, ?_, by rw [List.length_append]; have := hh.dur; omega, by rw [List.length_append]; show L.length + 1 ≤ _; omega⟩, ⟨?_, by show S.next ≤ V.next; omega⟩, ?_⟩
    · refine r1.agree (fun id e => ?_) (Nat.le_refl _)
      exact hWg id (by rcases hvb with h | h <;> omega)
    · intro k hk
      rcases List.mem_append.1 hk with hk | hk
      · have ha := (hhT.att k hk)
        have hp := hh.apart k hk
        have hko := (hh.att k hk).sl.old
        refine ⟨ha.sl.agree (fun id e => ?_) (by show T.next ≤ V.next; omega), ha.le⟩
        show (V.h.set _ _).get id = _
        rw [hWg id (by have := hp.1; omega)]
        exact hVS id (by omega) (by rcases hp.2 with h | h <;> omega)
      · simp at hk
        subst hk
        refine ⟨k2.agree (fun id e => ?_) (by show T.next ≤ V.next; omega), hu.le⟩
        show (V.h.set _ _).get id = _
        rw [hWg id (by omega)]
        exact hVS id (by omega) (by omega)
    · intro k hk
      rcases List.mem_append.1 hk with hk | hk
      · have hp := hh.apart k hk
        have hko := (hh.att k hk).sl.old
        refine ⟨hp.1, ?_⟩
        rcases hp.2 with h | h
        · exact .inl h
        · right; rcases hvb with h' | h' <;> omega
      · simp at hk
        subst hk
        simp only
        refine ⟨by omega, ?_⟩
        rcases hk4 with h | h
        · exact .inl h
        · right; rcases hvb with h' | h' <;> omega
    · rcases hvb with h | h <;> omega
    · intro id hi ha
      show (V.h.set _ _).get id = _
      rw [hWg id (fun e => ha (.inl e)), hVS id (by omega) (fun e => ha (.inr e.symm))]
      exact hS.h id hi
    · rintro id (e | e | ⟨k, hk, e⟩)
      · exact .inl (.inl e)
      · rcases hvb with h | h
        · exact .inl (.inr (.inl (by rw [← h]; exact e)))
        · right; omega
      · rcases List.mem_append.1 hk with hk | hk
        · exact .inl (.inr (.inr ⟨k, hk, e⟩))
        · simp at hk
          subst hk
          simp only at e
          right; omega
  refine enterW (pu0 _) (pr0 _ rfl) fn29 rfl ok29 (by simp) fun F hn hs => ?_
  rw [nt29] at hn
  have s0 := hs 0
  have s1 := hs 1
  have s2 := hs 2
  clear hs
  simp only [List.getElem?_cons_zero, List.getElem?_cons_succ, Option.getD_some] at s0 s1 s2
  have hat := hh.at_
  have c1 : ¬ h = S.next := by omega
  have c2 : ¬ h = T.next := by omega
  have hatT := hhT.at_
  have gT : T.h.get S.next = some (.row [.str key, u] 0 0 false 40) := by rw [hT.h _ (Nat.lt_succ_self _)]; exact get_set_same _ _ _
  simp [s0, s1, s2, none63 hh1, ex0, hn, hu.sl.cells]
  refine draws [.p, .p, .p, .p, .r 0 2, .p, .p, .r 0 1, .p, .r 0 0, .e [], .p, .p, .e [], .e [], .p, .p, .e []] (n := 32) (by kernel_rfl) (by simp [hn]) ?_
  simp [s0, s1, s2, hat, c1, c2, e1, ex0, hh1.at_, hatT, gT, okW_sl hh.gw.1, okW_sl hu.sl, k2.cells, k2.np, okW_sl k2, bld40 k2, bld142 k2, e2, r1.1.cells, r1.1.np, okW_sl r1.1, hVh, w1, w2, hw]
  exact ⟨by simpa using hw, v', u', fin _ rfl⟩
end Go.Proofs.YtedonhemfhfbaaaGreat.mod

namespace Go.Proofs.YtedonhemfhfbaaaGreat.mod
open Go Go.Am
set_option linter.unusedVariables false
set_option linter.unusedSimpArgs false

/-- An event, as it is given. -/
structure Ev where
  key : List Nat
  u : AV
  atts : List Att
def encE (e : Ev) : List AV := [.str e.key, e.u]
structure EvsAt (S : AS) (x : AV) (l : List Ev) : Prop where
  sl : Sl S x 2 (l.flatMap encE)
  att : ∀ e, e ∈ l → AttsAt S e.u e.atts
theorem EvsAt.sub {S T : AS} {x : AV} {l : List Ev} (h : EvsAt S x l) (hs : Sub S T) : EvsAt T x l := ⟨h.sl.toSub hs, fun e he => (h.att e he).sub hs⟩
/-- What Publish makes of events. -/
def HisOf (L : List Kept) (l : List Ev) : Prop := L.length = l.length ∧ ∀ (i : Nat) (k : Kept) (e : Ev), L[i]? = some k → l[i]? = some e → k.time = i ∧ k.key = e.key ∧ k.atts = e.atts ∧ k.state = 0
theorem HisOf.nil : HisOf [] [] := ⟨rfl, fun i k e h => by cases h⟩
def hisH (S : AS) (x : AV) (l : List Ev) (k : Nat) (F' : Fr) (S' : AS) : Prop :=
  ∃ (i h : Nat) (v : AV) (L : List Kept), Sub S S' ∧ HistAt S' h v L i ∧ HisOf L (l.take i) ∧ (∀ id, histFoot h v L id → S.next ≤ id) ∧ sl F' 0 = x ∧ sl F' 3 = .ptr h 0 0 3 ∧ sl F' 4 = .int .i64 i ∧ i ≤ l.length ∧ k = l.length - i
end Go.Proofs.YtedonhemfhfbaaaGreat.mod

namespace Go.Proofs.YtedonhemfhfbaaaGreat.mod
open Go Go.Am
set_option linter.unusedVariables false
set_option linter.unusedSimpArgs false

section
variable {S : AS} {b h : Nat} {v : AV} {L : List Kept} {dur : Nat} {st : Nat → Option SubX}
end
end Go.Proofs.YtedonhemfhfbaaaGreat.mod

namespace Go.Proofs.YtedonhemfhfbaaaGreat.mod
open Go Go.Am
set_option linter.unusedVariables false
set_option linter.unusedSimpArgs false

/-- A call, as it is given. -/
structure OpG where
  what : Int
  hh : Int
  id : Int
  pub : Int
  n : Nat
  key : List Nat
  eu : AV
  p : AV
  sv : AV
  a1 : Int
  a2 : Int
  a3 : Int
  d1 : Nat
  d2 : Nat
  dkey : List Nat
  du : AV
  d3 : Nat
  d4 : Nat
  ks : List Con
def encO (o : OpG) : List AV := [.int .i64 o.what, .int .i64 o.hh, .int .i64 o.id, .int .i64 o.pub, .int .u64 o.n, .str o.key, o.eu, o.p, o.sv, .int .i64 o.a1, .int .i64 o.a2, .int .i64 o.a3, .int .u64 o.d1, .int .u64 o.d2, .str o.dkey, o.du, .int .u64 o.d3, .int .u64 o.d4]
theorem encO_len (o : OpG) : (encO o).length = 18 := rfl
def what6 (o : OpG) : Int := o.what.tmod 6
def ackE' (x : Option SubS) (pub : Int) (n : Nat) : Int := match x with | none => 6 | some x => if (x.told.any fun y => decide ((pub, n) = y)) = true then 0 else 35
noncomputable def fitsV' (x : Option SubS) (L : List Kept) (dur : Nat) (pub : Int) (d : Dlv) : Int := match x with | none => 1 | some x => fitsN L dur x pub d
noncomputable def doesE (L : List Kept) (dur : Nat) (o : OpG) (pub : Int) (d : Dlv) (x : Option SubS) : Int :=
  if what6 o = 0 ∨ what6 o = 1 then (if mayP o.ks = false then 30 else if x.isSome then 9 else 0)
  else if what6 o = 2 then ackE' x pub o.n
  else if what6 o = 3 ∧ (o.n : Int).tmod 7 = 0 then (if x.isSome then 0 else 6)
  else fitsV' x L dur pub d
noncomputable def doesX (L : List Kept) (dur : Nat) (o : OpG) (pub : Int) (d : Dlv) (x : Option SubS) : Option SubS :=
  if what6 o = 0 ∨ what6 o = 1 then (if doesE L dur o pub d x = 0 then some (sub0 o.ks) else x)
  else if what6 o = 2 then (if doesE L dur o pub d x = 0 then x.map fun x => ackS x pub o.n else x)
  else if what6 o = 3 ∧ (o.n : Int).tmod 7 = 0 then none
  else if doesE L dur o pub d x = 0 then x.map fun x => tellS x pub (spanT d) else x
/-- What a closure's boxes hold. -/
structure Boxes (S : AS) (o : OpG) (id pub : Int) (d : Dlv) (h : Nat) (B7 B8 B9 B13 B3 : Nat) : Prop where
  g7 : S.h.get B7 = some (.row (encO o) 0 0 false 60)
  g8 : S.h.get B8 = some (.row [.int .i64 id] 0 0 false 3)
  g9 : S.h.get B9 = some (.row [.int .i64 pub] 0 0 false 3)
  g13 : S.h.get B13 = some (.row (encD d) 0 0 false 48)
  g3 : S.h.get B3 = some (.row [.ptr h 0 0 3] 0 0 false 25)
  l7 : B7 < S.next
  l8 : B8 < S.next
  l9 : B9 < S.next
  l13 : B13 < S.next
  l3 : B3 < S.next
theorem Boxes.sub {S T : AS} {o : OpG} {id pub : Int} {d : Dlv} {h : Nat} {B7 B8 B9 B13 B3 : Nat} (b : Boxes S o id pub d h B7 B8 B9 B13 B3) (hs : Sub S T) : Boxes T o id pub d h B7 B8 B9 B13 B3 :=
  ⟨by rw [hs.h _ b.l7]; exact b.g7, by rw [hs.h _ b.l8]; exact b.g8, by rw [hs.h _ b.l9]; exact b.g9, by rw [hs.h _ b.l13]; exact b.g13, by rw [hs.h _ b.l3]; exact b.g3, Nat.lt_of_lt_of_le b.l7 hs.next, Nat.lt_of_lt_of_le b.l8 hs.next, Nat.lt_of_lt_of_le b.l9 hs.next, Nat.lt_of_lt_of_le b.l13 hs.next, Nat.lt_of_lt_of_le b.l3 hs.next⟩
section
variable {S : AS} {b h : Nat} {v : AV} {L : List Kept} {dur : Nat} {st : Nat → Option SubX} {o : OpG} {pub : Int} {d : Dlv} {B7 B8 B9 B13 B3 : Nat}
end
end Go.Proofs.YtedonhemfhfbaaaGreat.mod

namespace Go.Proofs.YtedonhemfhfbaaaGreat.mod
open Go Go.Am
set_option linter.unusedVariables false
set_option linter.unusedSimpArgs false

structure OwnAt (S : AS) (lo b1 b2 h B3 : Nat) (st1 st2 : Nat → Option SubX) (v : AV) (L : List Kept) (dur : Nat) : Prop where
  k1 : BookAt S b1 st1
  k2 : BookAt S b2 st2
  hh : HistAt S h v L dur
  g3 : S.h.get B3 = some (.row [.ptr h 0 0 3] 0 0 false 25)
  l3 : B3 < S.next
  d12 : ∀ id, bookFoot b1 st1 id → bookFoot b2 st2 id → False
  d1h : ∀ id, bookFoot b1 st1 id → histFoot h v L id → False
  d2h : ∀ id, bookFoot b2 st2 id → histFoot h v L id → False
  d13 : ¬ bookFoot b1 st1 B3
  d23 : ¬ bookFoot b2 st2 B3
  lo1 : ∀ id, bookFoot b1 st1 id → lo ≤ id
  lo2 : ∀ id, bookFoot b2 st2 id → lo ≤ id
  lo : lo ≤ S.next
section
variable {S T : AS} {lo b1 b2 h B3 : Nat} {st1 st2 : Nat → Option SubX} {v : AV} {L : List Kept} {dur : Nat}
theorem OwnAt.swap (o : OwnAt S lo b1 b2 h B3 st1 st2 v L dur) : OwnAt S lo b2 b1 h B3 st2 st1 v L dur :=
  ⟨o.k2, o.k1, o.hh, o.g3, o.l3, fun id a b => o.d12 id b a, o.d2h, o.d1h, o.d23, o.d13, o.lo2, o.lo1, o.lo⟩
theorem OwnAt.sub (o : OwnAt S lo b1 b2 h B3 st1 st2 v L dur) (hs : Sub S T) : OwnAt T lo b1 b2 h B3 st1 st2 v L dur :=
  ⟨o.k1.toSub hs, o.k2.toSub hs, o.hh.sub hs, by rw [hs.h _ o.l3]; exact o.g3, Nat.lt_of_lt_of_le o.l3 hs.next, o.d12, o.d1h, o.d2h, o.d13, o.d23, o.lo1, o.lo2, Nat.le_trans o.lo hs.next⟩
theorem OwnAt.sub0 {R : AS} {st' : Nat → Option SubX} (o : OwnAt S R.next b1 b2 h B3 st1 st2 v L dur) (h0 : Sub R S) (hs : Step S T b1 st1 st') : Sub R T :=
  ⟨fun id hi => (hs.keep.h id (Nat.lt_of_lt_of_le hi h0.next) (fun hf => by have := o.lo1 id hf; omega)).trans (h0.h id hi), Nat.le_trans h0.next hs.keep.next⟩
theorem Boxes.keep {A : Nat → Prop} {o : OpG} {id pub : Int} {d : Dlv} {h B7 B8 B9 B13 B3 : Nat} (b : Boxes S o id pub d h B7 B8 B9 B13 B3) (hs : Keep A S T) (a7 : ¬ A B7) (a8 : ¬ A B8) (a9 : ¬ A B9) (a13 : ¬ A B13) (a3 : ¬ A B3) : Boxes T o id pub d h B7 B8 B9 B13 B3 :=
  ⟨by rw [hs.h _ b.l7 a7]; exact b.g7, by rw [hs.h _ b.l8 a8]; exact b.g8, by rw [hs.h _ b.l9 a9]; exact b.g9, by rw [hs.h _ b.l13 a13]; exact b.g13, by rw [hs.h _ b.l3 a3]; exact b.g3, Nat.lt_of_lt_of_le b.l7 hs.next, Nat.lt_of_lt_of_le b.l8 hs.next, Nat.lt_of_lt_of_le b.l9 hs.next, Nat.lt_of_lt_of_le b.l13 hs.next, Nat.lt_of_lt_of_le b.l3 hs.next⟩
def nextS (x : Option SubS) (pub : Int) : Nat := match x with | none => 0 | some x => nextN x pub
def roomS (x : Option SubS) : Int := match x with | none => 0 | some x => 8 - (x.told.length : Int)
end
structure OpsAt (S : AS) (x : AV) (l : List OpG) : Prop where
  sl : Sl S x 18 (l.flatMap encO)
  pred : ∀ o, o ∈ l → PredAt S o.p o.ks
  ok : ∀ o, o ∈ l → okV o.eu = true ∧ okV o.sv = true ∧ okV o.du = true
end Go.Proofs.YtedonhemfhfbaaaGreat.mod

namespace Go.Proofs.YtedonhemfhfbaaaGreat.mod
open Go Go.Am
set_option linter.unusedVariables false
set_option linter.unusedSimpArgs false
end Go.Proofs.YtedonhemfhfbaaaGreat.mod
