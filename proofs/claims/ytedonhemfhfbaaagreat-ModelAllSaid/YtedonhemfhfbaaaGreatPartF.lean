/-
  What one call of ModelOwn does to a book.
  ModelOwn: two books.
  The last bit of a number.
  ModOwn: the law's beginning.
-/
import Derived.Test.YtedonhemfhfbaaaGreatPartE
namespace Go.Proofs.YtedonhemfhfbaaaGreat.mod
open Go Go.Am
set_option linter.unusedVariables false
set_option linter.unusedSimpArgs false

/-- A call, as it is given. -/
structure OpG where
  what : Int
  hh : Int
  id : Int
  pub : Int
  n : Nat
  key : List Nat
  eu : AV
  p : AV
  sv : AV
  a1 : Int
  a2 : Int
  a3 : Int
  d1 : Nat
  d2 : Nat
  dkey : List Nat
  du : AV
  d3 : Nat
  d4 : Nat
  ks : List Con
def encO (o : OpG) : List AV := [.int .i64 o.what, .int .i64 o.hh, .int .i64 o.id, .int .i64 o.pub, .int .u64 o.n, .str o.key, o.eu, o.p, o.sv, .int .i64 o.a1, .int .i64 o.a2, .int .i64 o.a3, .int .u64 o.d1, .int .u64 o.d2, .str o.dkey, o.du, .int .u64 o.d3, .int .u64 o.d4]
theorem encO_len (o : OpG) : (encO o).length = 18 := rfl
def what6 (o : OpG) : Int := o.what.tmod 6
def ackE' (x : Option SubS) (pub : Int) (n : Nat) : Int := match x with | none => 6 | some x => if (x.told.any fun y => decide ((pub, n) = y)) = true then 0 else 35
noncomputable def fitsV' (x : Option SubS) (L : List Kept) (dur : Nat) (pub : Int) (d : Dlv) : Int := match x with | none => 1 | some x => fitsN L dur x pub d
noncomputable def doesE (L : List Kept) (dur : Nat) (o : OpG) (pub : Int) (d : Dlv) (x : Option SubS) : Int :=
  if what6 o = 0 ∨ what6 o = 1 then (if mayP o.ks = false then 30 else if x.isSome then 9 else 0)
  else if what6 o = 2 then ackE' x pub o.n
  else if what6 o = 3 ∧ (o.n : Int).tmod 7 = 0 then (if x.isSome then 0 else 6)
  else fitsV' x L dur pub d
noncomputable def doesX (L : List Kept) (dur : Nat) (o : OpG) (pub : Int) (d : Dlv) (x : Option SubS) : Option SubS :=
  if what6 o = 0 ∨ what6 o = 1 then (if doesE L dur o pub d x = 0 then some (sub0 o.ks) else x)
  else if what6 o = 2 then (if doesE L dur o pub d x = 0 then x.map fun x => ackS x pub o.n else x)
  else if what6 o = 3 ∧ (o.n : Int).tmod 7 = 0 then none
  else if doesE L dur o pub d x = 0 then x.map fun x => tellS x pub (spanT d) else x
theorem ackE_eq (o : Option SubX) (pub : Int) (n : Nat) : ackE o pub n = ackE' (o.map (·.x)) pub n := by cases o <;> rfl
theorem fitsV_eq (o : Option SubX) (L : List Kept) (dur : Nat) (pub : Int) (d : Dlv) : fitsV o L dur pub d = fitsV' (o.map (·.x)) L dur pub d := by cases o <;> rfl
theorem updS_self {α : Type} (f : Nat → α) (n : Nat) : updS f n (f n) = f := by
  funext i
  unfold updS
  split
  · rename_i h; rw [h]
  · rfl
theorem updS_self' {α : Type} {f : Nat → α} {n : Nat} {x : α} (h : f n = x) : updS f n x = f := by rw [← h]; exact updS_self f n
/-- What a closure's boxes hold. -/
structure Boxes (S : AS) (o : OpG) (id pub : Int) (d : Dlv) (h : Nat) (B7 B8 B9 B13 B3 : Nat) : Prop where
  g7 : S.h.get B7 = some (.row (encO o) 0 0 false 60)
  g8 : S.h.get B8 = some (.row [.int .i64 id] 0 0 false 3)
  g9 : S.h.get B9 = some (.row [.int .i64 pub] 0 0 false 3)
  g13 : S.h.get B13 = some (.row (encD d) 0 0 false 48)
  g3 : S.h.get B3 = some (.row [.ptr h 0 0 3] 0 0 false 25)
  l7 : B7 < S.next
  l8 : B8 < S.next
  l9 : B9 < S.next
  l13 : B13 < S.next
  l3 : B3 < S.next
theorem Boxes.sub {S T : AS} {o : OpG} {id pub : Int} {d : Dlv} {h : Nat} {B7 B8 B9 B13 B3 : Nat} (b : Boxes S o id pub d h B7 B8 B9 B13 B3) (hs : Sub S T) : Boxes T o id pub d h B7 B8 B9 B13 B3 :=
  ⟨by rw [hs.h _ b.l7]; exact b.g7, by rw [hs.h _ b.l8]; exact b.g8, by rw [hs.h _ b.l9]; exact b.g9, by rw [hs.h _ b.l13]; exact b.g13, by rw [hs.h _ b.l3]; exact b.g3, Nat.lt_of_lt_of_le b.l7 hs.next, Nat.lt_of_lt_of_le b.l8 hs.next, Nat.lt_of_lt_of_le b.l9 hs.next, Nat.lt_of_lt_of_le b.l13 hs.next, Nat.lt_of_lt_of_le b.l3 hs.next⟩
section
variable {S : AS} {b h : Nat} {v : AV} {L : List Kept} {dur : Nat} {st : Nat → Option SubX} {o : OpG} {pub : Int} {d : Dlv} {B7 B8 B9 B13 B3 : Nat}
set_option maxRecDepth 20000 in
theorem does21 (hb : BookAt S b st) (hh : HistAt S h v L dur) {n : Nat} (hn8 : n < 8) (hp : PredAt S o.p o.ks) (hd : AttsAt S d.u d.atts) (hD : ∀ i, bookFoot b st i → histFoot h v L i → False) (hg : d.gap = false) (hB : Boxes S o n pub d h B7 B8 B9 B13 B3) :
    CallW C0 21 [.ptr b 0 0 17, .ptr B7 0 0 18, .ptr B8 0 0 1, .ptr B9 0 0 1, .ptr B13 0 0 6, .ptr B3 0 0 1] S fun r T => r = .int .i64 (doesE L dur o pub d (abst st n)) ∧ ∃ st', Step S T b st st' ∧ abst st' = updS (abst st) n (doesX L dur o pub d (abst st n)) := by
  have hst : stAt st (n : Int) = st n := stAt_nat st hn8
  have hab : (st n).map (·.x) = abst st n := rfl
  have hsome : (st n).isSome = (abst st n).isSome := by unfold abst; cases st n <;> rfl
  obtain ⟨g7, g8, g9, g13, g3, l7, l8, l9, l13, l3⟩ := id hB
  have hpok := okW_of hp.sl.ok
  refine enterW (pu0 _) (pr0 _ rfl) fn21 rfl ok21 (by simp) fun F hn hs => ?_
  have s0 := hs 0
  have s1 := hs 1
  have s2 := hs 2
  have s3 := hs 3
  have s4 := hs 4
  have s5 := hs 5
  clear hs
  simp only [List.getElem?_cons_zero, List.getElem?_cons_succ, Option.getD_some] at s0 s1 s2 s3 s4 s5
  simp only [encO] at g7
  have sub : ∀ T st', Step S T b st st' → (abst st' = if subE st n o.ks = 0 then updS (abst st) (n : Int).toNat (some (sub0 o.ks)) else abst st) → (what6 o = 0 ∨ what6 o = 1) →
      subE st n o.ks = doesE L dur o pub d (abst st n) ∧ ∃ st', Step S T b st st' ∧ abst st' = updS (abst st) n (doesX L dur o pub d (abst st n)) := fun T st' hS ha hw => by
    have hE : doesE L dur o pub d (abst st n) = subE st n o.ks := by
      unfold doesE subE
      rw [if_pos hw, if_neg (show ¬ (n : Int) < 0 by omega), if_neg (show ¬ 8 ≤ (n : Int) by omega), ← hsome]
      rfl
    refine ⟨hE.symm, st', hS, ?_⟩
    unfold doesX
    rw [if_pos hw, hE, ha]
    split
    · rfl
    · exact (updS_self _ _).symm
  by_cases h0 : o.what.tmod 6 = 0
  · obtain ⟨r, T, ⟨rfl, st', hS, ha⟩, e⟩ := (subscribe11 hb hp n).ex
    have := sub T st' hS ha (.inl h0)
    simp [s0, s1, s2, s3, s4, s5, g7, g8, h0, e, ex0, hpok]
    exact this
  by_cases h1 : o.what.tmod 6 = 1
  · obtain ⟨r, T, ⟨rfl, st', hS, ha⟩, e⟩ := (subscribe11 hb hp n).ex
    have := sub T st' hS ha (.inr h1)
    simp [s0, s1, s2, s3, s4, s5, g7, g8, h1, e, ex0, hpok]
    exact this
  have h01 : ¬ (what6 o = 0 ∨ what6 o = 1) := fun h => h.elim h0 h1
  by_cases h2 : o.what.tmod 6 = 2
  · obtain ⟨r, T, ⟨rfl, st', hS, ha⟩, e⟩ := (ack18 hb n pub o.n).ex
    rw [hst, ackE_eq, hab] at e ha
    have hE : doesE L dur o pub d (abst st n) = ackE' (abst st n) pub o.n := by
      unfold doesE
      rw [if_neg h01, if_pos (show what6 o = 2 from h2)]
    simp [s0, s1, s2, s3, s4, s5, g7, g8, g9, h0, h1, h2, e, ex0, hE]
    refine ⟨st', hS, ?_⟩
    unfold doesX
    rw [if_neg h01, if_pos (show what6 o = 2 from h2), hE, ha]
    split
    · show updS (abst st) n _ = updS (abst st) n _
      congr 1
      unfold abst
      cases st n <;> rfl
    · exact (updS_self _ _).symm
  have h22 : ¬ what6 o = 2 := h2
  have tail : ∀ F' : Fr, F'.n = F.n → (∀ k, k < 7 → sl F' k = sl F k) → ¬ (what6 o = 3 ∧ (o.n : Int).tmod 7 = 0) → True := fun _ _ _ _ => trivial
  obtain ⟨r, T1, ⟨rfl, hT1⟩, e1⟩ := (fits16 hb hh n pub d hd).ex
  have hB1 := hB.sub hT1
  obtain ⟨q7, q8, q9, q13, q3, _⟩ := id hB1
  obtain ⟨r2, T2, ⟨st2, hS2, ha2⟩, e2⟩ := (tell_item (hb.toSub hT1) (hh.sub hT1) n pub d (hd.sub hT1) hD hg).ex
  rw [hst, fitsV_eq, hab] at ha2 e1
  simp only [encD] at g13 q13 e1 e2
  have fin : ¬ (what6 o = 3 ∧ (o.n : Int).tmod 7 = 0) → doesE L dur o pub d (abst st n) = fitsV' (abst st n) L dur pub d ∧ ∃ st', Step S T2 b st st' ∧ abst st' = updS (abst st) n (doesX L dur o pub d (abst st n)) := fun h3 => by
    have hE : doesE L dur o pub d (abst st n) = fitsV' (abst st n) L dur pub d := by
      unfold doesE
      rw [if_neg h01, if_neg h22, if_neg h3]
    refine ⟨hE, st2, hS2.after hT1, ?_⟩
    unfold doesX
    rw [if_neg h01, if_neg h22, if_neg h3, hE, ha2]
    split
    · show updS (abst st) n _ = updS (abst st) n _
      congr 1
      unfold abst
      cases st n <;> rfl
    · exact (updS_self _ _).symm
  have huk := okW_sl hd.sl
  by_cases h3 : o.what.tmod 6 = 3
  · by_cases h7 : (o.n : Int).tmod 7 = 0
    · obtain ⟨r, T, ⟨rfl, st', hS, ha⟩, e⟩ := (unsub22 hb n).ex
      rw [hst, hsome] at e ha
      have hE : doesE L dur o pub d (abst st n) = if (abst st n).isSome = true then 0 else 6 := by
        unfold doesE
        rw [if_neg h01, if_neg h22, if_pos ⟨h3, h7⟩]
      simp [s0, s1, s2, s3, s4, s5, g7, g8, g9, h0, h1, h2, h3, h7, e, ex0, hE]
      refine ⟨st', hS, ?_⟩
      unfold doesX
      rw [if_neg h01, if_neg h22, if_pos ⟨h3, h7⟩, ha]
      split
      · rfl
      · rename_i hno
        exact (updS_self' (by simpa using hno)).symm
    · obtain ⟨f1, f2⟩ := fin (fun h => h7 h.2)
      simp [s0, s1, s2, s3, s4, s5, g7, g8, g9, g13, g3, q7, q8, q9, q13, q3, h0, h1, h2, h3, h7, e1, e2, ex0, huk]
      exact ⟨f1.symm, f2⟩
  · obtain ⟨f1, f2⟩ := fin (fun h => h3 h.1)
    simp [s0, s1, s2, s3, s4, s5, g7, g8, g9, g13, g3, q7, q8, q9, q13, q3, h0, h1, h2, h3, e1, e2, ex0, huk]
    exact ⟨f1.symm, f2⟩
end
end Go.Proofs.YtedonhemfhfbaaaGreat.mod

namespace Go.Proofs.YtedonhemfhfbaaaGreat.mod
open Go Go.Am
set_option linter.unusedVariables false
set_option linter.unusedSimpArgs false

structure OwnAt (S : AS) (lo b1 b2 h B3 : Nat) (st1 st2 : Nat → Option SubX) (v : AV) (L : List Kept) (dur : Nat) : Prop where
  k1 : BookAt S b1 st1
  k2 : BookAt S b2 st2
  hh : HistAt S h v L dur
  g3 : S.h.get B3 = some (.row [.ptr h 0 0 3] 0 0 false 25)
  l3 : B3 < S.next
  d12 : ∀ id, bookFoot b1 st1 id → bookFoot b2 st2 id → False
  d1h : ∀ id, bookFoot b1 st1 id → histFoot h v L id → False
  d2h : ∀ id, bookFoot b2 st2 id → histFoot h v L id → False
  d13 : ¬ bookFoot b1 st1 B3
  d23 : ¬ bookFoot b2 st2 B3
  lo1 : ∀ id, bookFoot b1 st1 id → lo ≤ id
  lo2 : ∀ id, bookFoot b2 st2 id → lo ≤ id
  lo : lo ≤ S.next
section
variable {S T : AS} {lo b1 b2 h B3 : Nat} {st1 st2 : Nat → Option SubX} {v : AV} {L : List Kept} {dur : Nat}
theorem OwnAt.swap (o : OwnAt S lo b1 b2 h B3 st1 st2 v L dur) : OwnAt S lo b2 b1 h B3 st2 st1 v L dur :=
  ⟨o.k2, o.k1, o.hh, o.g3, o.l3, fun id a b => o.d12 id b a, o.d2h, o.d1h, o.d23, o.d13, o.lo2, o.lo1, o.lo⟩
theorem OwnAt.sub (o : OwnAt S lo b1 b2 h B3 st1 st2 v L dur) (hs : Sub S T) : OwnAt T lo b1 b2 h B3 st1 st2 v L dur :=
  ⟨o.k1.toSub hs, o.k2.toSub hs, o.hh.sub hs, by rw [hs.h _ o.l3]; exact o.g3, Nat.lt_of_lt_of_le o.l3 hs.next, o.d12, o.d1h, o.d2h, o.d13, o.d23, o.lo1, o.lo2, Nat.le_trans o.lo hs.next⟩
theorem OwnAt.step1 {st' : Nat → Option SubX} (o : OwnAt S lo b1 b2 h B3 st1 st2 v L dur) (hs : Step S T b1 st1 st') : OwnAt T lo b1 b2 h B3 st' st2 v L dur := by
  have hn := hs.keep.next
  have l3 := o.l3
  refine ⟨hs.book, o.k2.agree (fun id hf => hs.keep.h id (o.k2.foot hf) (fun h1 => o.d12 id h1 hf)) hn, o.hh.agree (fun id hf => hs.keep.h id (o.hh.foot hf) (fun h1 => o.d1h id h1 hf)) hn, ?_, by omega, ?_, ?_, o.d2h, ?_, o.d23, ?_, o.lo2, Nat.le_trans o.lo hn⟩
  · rw [hs.keep.h _ o.l3 o.d13]; exact o.g3
  · intro id f1 f2
    rcases hs.foot id f1 with h1 | h1
    · exact o.d12 id h1 f2
    · have := o.k2.foot f2; omega
  · intro id f1 f2
    rcases hs.foot id f1 with h1 | h1
    · exact o.d1h id h1 f2
    · have := o.hh.foot f2; omega
  · intro f1
    rcases hs.foot _ f1 with h1 | h1
    · exact o.d13 h1
    · omega
  · intro id f1
    rcases hs.foot id f1 with h1 | h1
    · exact o.lo1 id h1
    · have := o.lo; omega
theorem OwnAt.step2 {st' : Nat → Option SubX} (o : OwnAt S lo b1 b2 h B3 st1 st2 v L dur) (hs : Step S T b2 st2 st') : OwnAt T lo b1 b2 h B3 st1 st' v L dur := (o.swap.step1 hs).swap
theorem OwnAt.sub0 {R : AS} {st' : Nat → Option SubX} (o : OwnAt S R.next b1 b2 h B3 st1 st2 v L dur) (h0 : Sub R S) (hs : Step S T b1 st1 st') : Sub R T :=
  ⟨fun id hi => (hs.keep.h id (Nat.lt_of_lt_of_le hi h0.next) (fun hf => by have := o.lo1 id hf; omega)).trans (h0.h id hi), Nat.le_trans h0.next hs.keep.next⟩
theorem Boxes.keep {A : Nat → Prop} {o : OpG} {id pub : Int} {d : Dlv} {h B7 B8 B9 B13 B3 : Nat} (b : Boxes S o id pub d h B7 B8 B9 B13 B3) (hs : Keep A S T) (a7 : ¬ A B7) (a8 : ¬ A B8) (a9 : ¬ A B9) (a13 : ¬ A B13) (a3 : ¬ A B3) : Boxes T o id pub d h B7 B8 B9 B13 B3 :=
  ⟨by rw [hs.h _ b.l7 a7]; exact b.g7, by rw [hs.h _ b.l8 a8]; exact b.g8, by rw [hs.h _ b.l9 a9]; exact b.g9, by rw [hs.h _ b.l13 a13]; exact b.g13, by rw [hs.h _ b.l3 a3]; exact b.g3, Nat.lt_of_lt_of_le b.l7 hs.next, Nat.lt_of_lt_of_le b.l8 hs.next, Nat.lt_of_lt_of_le b.l9 hs.next, Nat.lt_of_lt_of_le b.l13 hs.next, Nat.lt_of_lt_of_le b.l3 hs.next⟩
/-- Item, of any number. -/
theorem item_any (hh : HistAt S h v L dur) (n : Nat) : CallW C0 14 [.ptr h 0 0 3, .int .u64 n] S fun r T =>
    ∃ (nn tt : Nat) (key : List Nat) (u : AV) (atts : List Att) (s : Int) (is : Bool), r = .tuple [.agg [.int .u64 nn, .int .u64 tt, .str key, u], .int .i64 s, .bool is] ∧ AttsAt T u atts ∧ (bnd u = 0 ∨ S.next < bnd u) ∧ Sub S T := by
  by_cases hn : n < 1 ∨ L.length < n
  · obtain ⟨r, T, ⟨rfl, hT⟩, e⟩ := (item_no hh hn).ex
    rw [e]
    exact ⟨0, 0, [], .nils, [], 0, false, rfl, atts_nil, .inl rfl, hT⟩
  · obtain ⟨m, rfl⟩ : ∃ m, n = m + 1 := ⟨n - 1, by omega⟩
    have hk : L[m]? = some (L[m]'(by omega)) := List.getElem?_eq_getElem _
    obtain ⟨r, T, ⟨u', rfl, h1, h2, hT⟩, e⟩ := (item_yes hh hk).ex
    rw [e]
    exact ⟨m + 1, _, _, u', _, _, true, rfl, h1, h2, hT⟩
def nextS (x : Option SubS) (pub : Int) : Nat := match x with | none => 0 | some x => nextN x pub
def roomS (x : Option SubS) : Int := match x with | none => 0 | some x => 8 - (x.told.length : Int)
theorem next_own {b : Nat} {st : Nat → Option SubX} (hb : BookAt S b st) (pub : Int) : CallW C0 23 [.ptr b 0 0 17, .int .i64 0, .int .i64 pub] S fun r T => r = .int .u64 (nextS (abst st 0) pub) ∧ Sub S T := by
  obtain ⟨r, T, h, e⟩ := (nextOf23 hb 0 pub).ex
  rw [e]
  refine ⟨?_, h.2⟩
  rw [h.1]
  have : stAt st 0 = st 0 := stAt_nat st (n := 0) (by omega)
  rw [this]
  unfold abst
  cases st 0 <;> rfl
theorem room_own {b : Nat} {st : Nat → Option SubX} (hb : BookAt S b st) {Q : AV → AS → Prop} : CallW C0 19 [.ptr b 0 0 17, .int .i64 0] S Q = Q (.int .i64 (roomS (abst st 0))) S := by
  rw [room19 hb 0]
  have : stAt st 0 = st 0 := stAt_nat st (n := 0) (by omega)
  rw [this]
  unfold abst
  cases st 0 <;> rfl
end
structure OpsAt (S : AS) (x : AV) (l : List OpG) : Prop where
  sl : Sl S x 18 (l.flatMap encO)
  pred : ∀ o, o ∈ l → PredAt S o.p o.ks
  ok : ∀ o, o ∈ l → okV o.eu = true ∧ okV o.sv = true ∧ okV o.du = true
end Go.Proofs.YtedonhemfhfbaaaGreat.mod

namespace Go.Proofs.YtedonhemfhfbaaaGreat.mod
open Go Go.Am
set_option linter.unusedVariables false
set_option linter.unusedSimpArgs false
theorem bitsS_one (n : Int) : ∃ m : Nat, m < 2 ∧ bitsS .and .i64 n 1 = (m : Int) := by
  have h : ((BitVec.ofInt 64 n) &&& (BitVec.ofInt 64 1)).toNat = (BitVec.ofInt 64 n).toNat % 2 := by
    rw [BitVec.toNat_and]
    have : (BitVec.ofInt 64 1).toNat = 1 := by decide
    rw [this, Nat.and_one_is_mod]
  refine ⟨(BitVec.ofInt 64 n).toNat % 2, Nat.mod_lt _ (by omega), ?_⟩
  show IntKind.i64.wrap (((BitVec.ofInt 64 n) &&& (BitVec.ofInt 64 1)).toNat : Int) = _
  rw [h]
  have h2 : (BitVec.ofInt 64 n).toNat % 2 < 2 := Nat.mod_lt _ (by omega)
  exact IntWalk.i64_in _ (by omega)
theorem and_one (n : Int) : ∃ m : Nat, m < 2 ∧ bitsI .and .i64 n 1 = .int .i64 m := by
  obtain ⟨m, h1, h2⟩ := bitsS_one n
  cases n with
  | negSucc a => exact ⟨m, h1, by show forceI (bitsS .and .i64 _ 1) (fun n => AV.int .i64 n) = _; rw [h2, forceI_eq]⟩
  | ofNat a =>
    show ∃ m : Nat, m < 2 ∧ cond (Nat.blt a (half .i64) && Nat.blt 1 (half .i64)) (forceN (natBits .and a 1) fun n => AV.int .i64 (Int.ofNat n)) (forceI (bitsS .and .i64 (.ofNat a) 1) fun n => AV.int .i64 n) = AV.int .i64 m
    cases hc : (Nat.blt a (half .i64) && Nat.blt 1 (half .i64)) with
    | true =>
      refine ⟨a % 2, Nat.mod_lt _ (by omega), ?_⟩
      have : natBits .and a 1 = a % 2 := Nat.and_one_is_mod a
      rw [cond_true, this, forceN_eq]
      rfl
    | false =>
      rw [cond_false, h2]
      exact ⟨m, h1, by rw [forceI_eq]⟩
theorem binV_and1 (n : Int) : ∃ m : Nat, m < 2 ∧ ∀ c, binV C0 .and 3 c (.int .i64 n) (.int .i64 1) = some (.int .i64 m) := by
  obtain ⟨m, h1, h2⟩ := and_one n
  refine ⟨m, h1, fun c => ?_⟩
  show cond (kindEq .i64 .i64) (some (bitsI .and .i64 n 1)) none = _
  rw [h2]; rfl
end Go.Proofs.YtedonhemfhfbaaaGreat.mod

namespace Go.Proofs.YtedonhemfhfbaaaGreat.mod
open Go Go.Am
set_option linter.unusedVariables false
set_option linter.unusedSimpArgs false

theorem aggN_some {n : Nat} {v : AV} {cs : List AV} (h : aggN n v = some cs) : v = .agg cs ∧ cs.length = n := by
  unfold aggN at h
  split at h
  · split at h
    · cases h; exact ⟨rfl, by assumption⟩
    · cases h
  · cases h
theorem freshV_6 {cx : Am.Cx} {F : Fr} {t : TypeId} {p : Nat × Nat × Nat} {id : Nat} {x0 x1 x2 x3 x4 x5 : Tmp} {v0 v1 v2 v3 v4 v5 : AV} {c0 c1 c2 c3 c4 c5 : List AV} (h : slT cx t = some p) (h0 : sl F x0 = v0) (h1 : sl F x1 = v1) (h2 : sl F x2 = v2) (h3 : sl F x3 = v3) (h4 : sl F x4 = v4) (h5 : sl F x5 = v5)
    (e0 : aggN p.2.1 v0 = some c0) (e1 : aggN p.2.1 v1 = some c1) (e2 : aggN p.2.1 v2 = some c2) (e3 : aggN p.2.1 v3 = some c3) (e4 : aggN p.2.1 v4 = some c4) (e5 : aggN p.2.1 v5 = some c5) (hn : 6 * p.2.1 ≤ 16777216) :
    freshV cx F id (.buildSlice t 6 #[(0, .tmp x0), (1, .tmp x1), (2, .tmp x2), (3, .tmp x3), (4, .tmp x4), (5, .tmp x5)]) = some (.slice id 0 0 6 (6 * p.2.1) p.2.1 (some 6), .row (c0 ++ c1 ++ c2 ++ c3 ++ c4 ++ c5) 0 0 false p.1) := by
  obtain ⟨rfl, l0⟩ := aggN_some e0
  obtain ⟨rfl, l1⟩ := aggN_some e1
  obtain ⟨rfl, l2⟩ := aggN_some e2
  obtain ⟨rfl, l3⟩ := aggN_some e3
  obtain ⟨rfl, l4⟩ := aggN_some e4
  obtain ⟨rfl, l5⟩ := aggN_some e5
  have := freshV_els (cx := cx) (F := F) (t := t) (p := p) (id := id) (n := 6) (a := #[(0, .tmp x0), (1, .tmp x1), (2, .tmp x2), (3, .tmp x3), (4, .tmp x4), (5, .tmp x5)]) [c0, c1, c2, c3, c4, c5] h rfl (by simp [eval_tmp, h0, h1, h2, h3, h4, h5, cellsOf]) (by simp [l0, l1, l2, l3, l4, l5]) hn
  simpa using this
theorem bld40k : buildA C0 40 [(0, .str [107])] = some (.agg [.str [107], .nils]) := by kernel_rfl
theorem own_checks {S : AS} {lo b1 b2 h B3 : Nat} {st1 st2 : Nat → Option SubX} {v : AV} {L : List Kept} {dur : Nat} (o : OwnAt S lo b1 b2 h B3 st1 st2 v L dur) (hs : abst st1 0 = abst st2 0) :
    ∃ (m0 m1 : Nat) (rm : Int) (V1 V2 V3 V4 : AS), (∀ Q, CallW C0 23 [.ptr b1 0 0 17, .int .i64 0, .int .i64 0] S Q = Q (.int .u64 m0) V1) ∧ (∀ Q, CallW C0 23 [.ptr b2 0 0 17, .int .i64 0, .int .i64 0] V1 Q = Q (.int .u64 m0) V2) ∧
      (∀ Q, CallW C0 23 [.ptr b1 0 0 17, .int .i64 0, .int .i64 1] V2 Q = Q (.int .u64 m1) V3) ∧ (∀ Q, CallW C0 23 [.ptr b2 0 0 17, .int .i64 0, .int .i64 1] V3 Q = Q (.int .u64 m1) V4) ∧
      (∀ Q, CallW C0 19 [.ptr b1 0 0 17, .int .i64 0] V4 Q = Q (.int .i64 rm) V4) ∧ (∀ Q, CallW C0 19 [.ptr b2 0 0 17, .int .i64 0] V4 Q = Q (.int .i64 rm) V4) ∧ Sub S V4 := by
  obtain ⟨r, V1, ⟨rfl, h1⟩, e1⟩ := (next_own o.k1 0).ex
  have o1 := o.sub h1
  obtain ⟨r, V2, ⟨rfl, h2⟩, e2⟩ := (next_own o1.k2 0).ex
  have o2 := o1.sub h2
  obtain ⟨r, V3, ⟨rfl, h3⟩, e3⟩ := (next_own o2.k1 1).ex
  have o3 := o2.sub h3
  obtain ⟨r, V4, ⟨rfl, h4⟩, e4⟩ := (next_own o3.k2 1).ex
  have o4 := o3.sub h4
  rw [← hs] at e2 e4
  exact ⟨_, _, roomS (abst st1 0), V1, V2, V3, V4, e1, e2, e3, e4, fun Q => room_own o4.k1, fun Q => by rw [hs]; exact room_own o4.k2, ((h1.trans h2).trans h3).trans h4⟩
theorem bld48 {S : AS} {u : AV} {cs : List AV} (h : Sl S u 5 cs) (k : List Nat) (n t : Int) : buildA C0 48 [(0, .agg [.int .u64 n, .int .u64 t, .str k, u])] = some (.agg [.int .u64 n, .int .u64 t, .str k, u, .int .u64 0, .int .u64 0]) := by
  rcases h.cases with rfl | ⟨_, _, _, _, _, _, rfl⟩ <;> kernel_rfl
theorem foot_none {b id : Nat} (h : bookFoot b (fun _ => none) id) : id = b := by
  rcases h with h | ⟨i, X, e, _⟩
  · exact h
  · cases e
theorem nt4 : Tryz.f4.ntmps = 89 := by kernel_rfl
def ownH (S : AS) (x : AV) (l : List OpG) (k : Nat) (F' : Fr) (S' : AS) : Prop :=
  ∃ (i b1 b2 h B3 : Nat) (st1 st2 : Nat → Option SubX) (v : AV) (L : List Kept) (dur : Nat), OwnAt S' S.next b1 b2 h B3 st1 st2 v L dur ∧ Sub S S' ∧ abst st1 0 = abst st2 0 ∧ sl F' 0 = x ∧ sl F' 3 = .ptr B3 0 0 1 ∧ sl F' 4 = .ptr b1 0 0 17 ∧ sl F' 5 = .ptr b2 0 0 17 ∧ sl F' 6 = .int .i64 i ∧ i ≤ l.length ∧ k = l.length - i
theorem ownH_mk {S : AS} {x : AV} {l : List OpG} {k : Nat} {F' : Fr} {S' : AS} {i b1 b2 h B3 : Nat} {st1 st2 : Nat → Option SubX} {v : AV} {L : List Kept} {dur : Nat} (h1 : OwnAt S' S.next b1 b2 h B3 st1 st2 v L dur) (h2 : Sub S S') (h3 : abst st1 0 = abst st2 0)
    (h4 : sl F' 0 = x) (h5 : sl F' 3 = .ptr B3 0 0 1) (h6 : sl F' 4 = .ptr b1 0 0 17) (h7 : sl F' 5 = .ptr b2 0 0 17) (h8 : sl F' 6 = .int .i64 i) (h9 : i ≤ l.length) (h10 : k = l.length - i) : ownH S x l k F' S' :=
  ⟨i, b1, b2, h, B3, st1, st2, v, L, dur, h1, h2, h3, h4, h5, h6, h7, h8, h9, h10⟩
set_option maxRecDepth 20000 in
theorem law4 {S : AS} {x : AV} {l : List OpG} (hx : OpsAt S x l) (hl : l.length ≤ 9223372036854775807) : CallW C0 4 [x] S fun r T => r = .bool true := by
  obtain ⟨r, T1, ⟨u1, rfl, a1, hT1⟩, e1⟩ := (one20 (S := S) [97] 1).ex
  obtain ⟨r, T2, ⟨u2, rfl, a2, hT2⟩, e2⟩ := (one20 (S := T1) [97] 2).ex
  obtain ⟨r, T3, ⟨u3, rfl, a3, hT3⟩, e3⟩ := (one20 (S := T2) [98] 1).ex
  have hS3 := (hT1.trans hT2).trans hT3
  have hT4 : Sub T3 ⟨T3.h.set T3.next (.row [.str [], .nils, .str [107], .nils, .str [], u1, .str [], u2, .str [], u3, .str [], .nils] 0 0 false 40), T3.next + 1⟩ := sub1
  have hev : EvsAt ⟨T3.h.set T3.next (.row [.str [], .nils, .str [107], .nils, .str [], u1, .str [], u2, .str [], u3, .str [], .nils] 0 0 false 40), T3.next + 1⟩ (.slice T3.next 0 0 6 12 2 (some 6))
      [⟨[], .nils, []⟩, ⟨[107], .nils, []⟩, ⟨[], u1, [⟨[97], ⟨1, 1, [], false⟩⟩]⟩, ⟨[], u2, [⟨[97], ⟨1, 2, [], false⟩⟩]⟩, ⟨[], u3, [⟨[98], ⟨1, 1, [], false⟩⟩]⟩, ⟨[], .nils, []⟩] := by
    refine ⟨⟨by simp [isSl, capB], ?_, by simp [sLen, encE], by simp [bnd]⟩, ?_⟩
    · simp [rdS, rd_at, get_set_same, rdO_row, encE]
    · intro e he
      simp only [List.mem_cons, List.not_mem_nil, or_false] at he
      rcases he with rfl | rfl | rfl | rfl | rfl | rfl
      · exact atts_nil
      · exact atts_nil
      · exact ((a1.sub hT2).sub hT3).sub hT4
      · exact (a2.sub hT3).sub hT4
      · exact a3.sub hT4
      · exact atts_nil
  obtain ⟨r, T5, ⟨h, v, L, rfl, hh, hof, hT5, hft⟩, e5⟩ := (history8 hev (by simp)).ex
  have hS5 := (hS3.trans hT4).trans hT5
  obtain ⟨r, T6, ⟨rfl, hb1, hT6⟩, e6⟩ := (newBook10 (S := ⟨(T5.h.set T5.next (.row [.nilp] 0 0 false 25)).set T5.next (.row [.ptr h 0 0 3] 0 0 false 25), T5.next + 1⟩)).ex
  obtain ⟨r, T7, ⟨rfl, hb2, hT7⟩, e7⟩ := (newBook10 (S := T6)).ex
  refine enterW (pu0 _) (pr0 _ rfl) fn4 rfl ok4 (by simp) fun F hn hs => ?_
  rw [nt4] at hn
  have s0 := hs 0
  clear hs
  simp only [List.getElem?_cons_zero, Option.getD_some] at s0
  have n5 : T5.next + 1 ≤ T6.next := hT6.next
  have n6 : T5.next + 1 < T6.next := hb1.lt
  have n7 : T6.next < T7.next := hb2.lt
  have n5' := hS5.next
  have hT5b : Sub T5 ⟨(T5.h.set T5.next (.row [.nilp] 0 0 false 25)).set T5.next (.row [.ptr h 0 0 3] 0 0 false 25), T5.next + 1⟩ := ⟨fun id hid => by
    show ((T5.h.set _ _).set _ _).get id = _
    rw [get_set_ne _ _ (by omega), get_set_ne _ _ (by omega)], Nat.le_succ _⟩
  have hO : OwnAt T7 S.next (T5.next + 1) T6.next h T5.next (fun _ => none) (fun _ => none) v L 6 := by
    refine ⟨hb1.toSub hT7, hb2, ((hh.sub hT5b).sub hT6).sub hT7, ?_, by omega, ?_, ?_, ?_, ?_, ?_, ?_, ?_, by omega⟩
    · rw [hT7.h _ (by omega), hT6.h _ (by show T5.next < T5.next + 1; omega)]
      exact get_set_same _ _ _
    · intro id f1 f2
      have := foot_none f1
      have := foot_none f2
      omega
    · intro id f1 f2
      have := foot_none f1
      have := hh.foot f2
      omega
    · intro id f1 f2
      have := foot_none f1
      have := hh.foot f2
      omega
    · intro f1
      have := foot_none f1
      omega
    · intro f1
      have := foot_none f1
      omega
    · intro id f1
      have := foot_none f1
      omega
    · intro id f1
      have := foot_none f1
      omega
  have hS7 := ((hS5.trans hT5b).trans hT6).trans hT7
  simp [s0, bld40z, bld40k, e1, e2, e3, e5, e6, e7, ex0, freshV_6]
  have u1 := hx.sl.sl
  have u2 := hx.sl.len_flat encO_len (by omega)
  refine loopP_of (ownH S x l) l.length (ownH_mk (i := 0) hO hS7 rfl (by simp [s0]) (by simp) (by simp) (by simp) (by simp) (Nat.zero_le _) rfl) ?_
  clear hO hS7 hT5b n5 n6 n7 n5' hb1 hb2 hh hof hev hT4 hS3 hT7 hT6 hS5 hT5 hT1 hT2 hT3 a1 a2 a3 e1 e2 e3 e5 e6 e7 hft
  rintro k F' S' hn' ⟨i, b1, b2, h', B3, st1, st2, v', L', dur, hO, hsub, hsame, t0, t3, t4, t5, t6, hi, hk⟩
  have hn2 : F'.n = 89 := by rw [hn']; simp [hn]
  clear hn' s0 hn h v L T7 T6 T5
  by_cases hi' : i < l.length
  · by_cases h60 : (i : Int) < 60
    · have hxi : l[i]? = some l[i] := List.getElem?_eq_getElem hi'
      have hlo := loadT_el (cx := C0) (e := 60) (hx.sl.toSub hsub) encO_len (by omega) hxi ag60 sz60
      obtain ⟨ok1, ok2, ok3⟩ := hx.ok _ (List.getElem_mem hi')
      have okp := (hx.pred _ (List.getElem_mem hi')).sl.ok
      simp only [encO] at hlo
      simp [t0, t3, t4, t5, t6, u1, u2, hi', h60, hlo, hn2, ok1, ok2, ok3, okp]
      refine draws [.p, .r 0 0, .p, .p, .r 0 1, .p, .f, .f, .e [6, 7], .e [6, 7]] (n := 89) (by kernel_rfl) (by simp [hn2]) ?_
      obtain ⟨id, hid, eid⟩ := binV_and1 l[i].id
      obtain ⟨pub, hpub, epub⟩ := binV_and1 l[i].pub
      simp [eid, epub]
      have hSn := hsub.next
      generalize hW1 : (AS.mk ((((((S'.h.set S'.next (.row [.int .i64 0, .int .i64 0, .int .i64 0, .int .i64 0, .int .u64 0, .str [], .nils, .nils, .nils, .int .i64 0, .int .i64 0, .int .i64 0, .int .u64 0, .int .u64 0, .str [], .nils, .int .u64 0, .int .u64 0] 0 0 false 60)).set S'.next
        (.row [.int .i64 l[i].what, .int .i64 l[i].hh, .int .i64 l[i].id, .int .i64 l[i].pub, .int .u64 l[i].n, .str l[i].key, l[i].eu, l[i].p, l[i].sv, .int .i64 l[i].a1, .int .i64 l[i].a2, .int .i64 l[i].a3, .int .u64 l[i].d1, .int .u64 l[i].d2, .str l[i].dkey, l[i].du, .int .u64 l[i].d3, .int .u64 l[i].d4] 0 0 false 60)).set
        (S'.next + 2) (.row [.int .i64 0] 0 0 false 3)).set (S'.next + 1) (.row [.int .i64 0] 0 0 false 3)).set (S'.next + 1) (.row [.int .i64 id] 0 0 false 3)).set (S'.next + 2) (.row [.int .i64 pub] 0 0 false 3)) (S'.next + 1 + 2)) = W1
      have w1 : Sub S' W1 := by
        subst hW1
        refine ⟨fun id hid => ?_, by show S'.next ≤ S'.next + 1 + 2; omega⟩
        simp only [get_set_ne _ _ (show id ≠ S'.next by omega), get_set_ne _ _ (show id ≠ S'.next + 1 by omega), get_set_ne _ _ (show id ≠ S'.next + 2 by omega)]
      have w1n : W1.next = S'.next + 3 := by subst hW1; rfl
      have w7 : W1.h.get S'.next = some (.row (encO l[i]) 0 0 false 60) := by
        subst hW1
        simp only [get_set_ne _ _ (show S'.next ≠ S'.next + 1 by omega), get_set_ne _ _ (show S'.next ≠ S'.next + 2 by omega), get_set_same]
        rfl
      have w8 : W1.h.get (S'.next + 1) = some (.row [.int .i64 id] 0 0 false 3) := by
        subst hW1
        simp only [get_set_ne _ _ (show S'.next + 1 ≠ S'.next + 2 by omega), get_set_same]
      have w9 : W1.h.get (S'.next + 2) = some (.row [.int .i64 pub] 0 0 false 3) := by
        subst hW1
        exact get_set_same _ _ _
      clear hW1
      have hO1 := hO.sub w1
      obtain ⟨r, T, ⟨nn, tt, key, u, atts, sv, is, rfl, hu, hub, hT⟩, e1⟩ := (item_any hO1.hh l[i].n).ex
      have hS1 := w1.trans hT
      have hO2 := hO1.sub hT
      have hTn := hT.next
      have w7' := w7
      simp only [encO] at w7'
      have ku := okW_sl hu.sl
      simp [t0, t3, t4, t5, t6, hO1.g3, w7', e1, ex0, ku, hu.sl.np, bld48 hu.sl]
      generalize hW2 : (AS.mk ((((T.h.set T.next (.row [.int .u64 0, .int .u64 0, .str [], .nils] 0 0 false 42)).set T.next (.row [.int .u64 nn, .int .u64 tt, .str key, u] 0 0 false 42)).set (T.next + 1) (.row [.int .u64 0, .int .u64 0, .str [], .nils, .int .u64 0, .int .u64 0] 0 0 false 48)).set (T.next + 1) (.row [.int .u64 nn, .int .u64 tt, .str key, u, .int .u64 0, .int .u64 0] 0 0 false 48)) (T.next + 2)) = W2
      have w2 : Sub T W2 := by
        subst hW2
        refine ⟨fun id hid => ?_, by show T.next ≤ T.next + 2; omega⟩
        simp only [get_set_ne _ _ (show id ≠ T.next by omega), get_set_ne _ _ (show id ≠ T.next + 1 by omega)]
      have w2n : W2.next = T.next + 2 := by subst hW2; rfl
      have w13 : W2.h.get (T.next + 1) = some (.row (encD ⟨nn, tt, key, u, atts, 0, 0⟩) 0 0 false 48) := by
        subst hW2
        exact get_set_same _ _ _
      clear hW2
      have hO3 := hO2.sub w2
      have hS2 := hS1.trans w2
      have hwt := hT.trans w2
      have hBx : Boxes W2 l[i] id pub ⟨nn, tt, key, u, atts, 0, 0⟩ h' S'.next (S'.next + 1) (S'.next + 2) (T.next + 1) B3 :=
        ⟨by rw [hwt.h _ (by omega)]; exact w7, by rw [hwt.h _ (by omega)]; exact w8, by rw [hwt.h _ (by omega)]; exact w9, w13, hO3.g3, by omega, by omega, by omega, by omega, hO3.l3⟩
      have hpr : PredAt W2 l[i].p l[i].ks := (hx.pred _ (List.getElem_mem hi')).sub (hsub.trans hS2)
      obtain ⟨r, V1, ⟨rfl, st1', hSt, ha1⟩, e2⟩ := (does21 hO3.k1 hO3.hh (n := id) (by omega) hpr (hu.sub w2) hO3.d1h rfl hBx).ex
      have hO4 := hO3.step1 hSt
      have hsub4 := hO3.sub0 (hsub.trans hS2) hSt
      have nf : ∀ B, S'.next ≤ B → ¬ bookFoot b1 st1 B := fun B hB hf => by have := hO.k1.foot hf; omega
      have hBy := hBx.keep hSt.keep (nf _ (Nat.le_refl _)) (nf _ (by omega)) (nf _ (by omega)) (nf _ (by omega)) hO.d13
      have y8 := hBy.g8
      have hw := wrap_succ (i := i) (by omega)
      have hid' : id = 0 ∨ id = 1 := by omega
      have huV : AttsAt V1 u atts := ⟨(hu.sub w2).sl.agree (fun id e => hSt.keep.h id (by have := (hu.sub w2).sl.old; omega) (nf id (by omega))) hSt.keep.next, hu.le⟩
      have hpV : PredAt V1 l[i].p l[i].ks := (hx.pred _ (List.getElem_mem hi')).sub hsub4
      rcases hid' with rfl | rfl
      · obtain ⟨r, V2, ⟨rfl, st2', hSt2, ha2⟩, e3⟩ := (does21 hO4.k2 hO4.hh (n := 0) (by omega) hpV (d := ⟨nn, tt, key, u, atts, 0, 0⟩) huV hO4.d2h rfl hBy).ex
        have hO5 := hO4.step2 hSt2
        have hsub5 := hO4.swap.sub0 hsub4 hSt2
        rw [← hsame] at e3 ha2
        have hsame' : abst st1' 0 = abst st2' 0 := by rw [ha1, ha2]; rfl
        obtain ⟨m0, m1, rm, X1, X2, X3, X4, c1, c2, c3, c4, c5, c6, hX⟩ := own_checks hO5 hsame'
        simp only [Int.ofNat_zero] at y8
        simp [t0, t3, t4, t5, t6, e2, e3, y8, c1, c2, c3, c4, c5, c6, ex0, hw]
        exact ⟨l.length - (i + 1), by omega, ownH_mk (i := i + 1) (hO5.sub hX) (hsub5.trans hX) hsame' (by simp [t0]) (by simp [t3]) (by simp [t4]) (by simp [t5]) (by simp) hi' rfl⟩
      · have hsame' : abst st1' 0 = abst st2 0 := by rw [ha1, ← hsame]; rfl
        obtain ⟨m0, m1, rm, X1, X2, X3, X4, c1, c2, c3, c4, c5, c6, hX⟩ := own_checks hO4 hsame'
        simp only [Int.ofNat_one] at y8
        simp [t0, t3, t4, t5, t6, e2, y8, c1, c2, c3, c4, c5, c6, ex0, hw]
        exact ⟨l.length - (i + 1), by omega, ownH_mk (i := i + 1) (hO4.sub hX) (hsub4.trans hX) hsame' (by simp [t0]) (by simp [t3]) (by simp [t4]) (by simp [t5]) (by simp) hi' rfl⟩
    · simp [t0, t3, t4, t5, t6, u1, u2, hi', h60, d12, ex0]
  · simp [t0, t3, t4, t5, t6, u1, u2, hi', d12, ex0]
end Go.Proofs.YtedonhemfhfbaaaGreat.mod
