/-
  The abstract machine against the model: memory. What a step does to one object, the relation bears.
-/
import Derived.Test.YtfempihpphbgmaaGreatAmRel
import Derived.Laws.Cells
namespace Go.Am
open Go
variable {Λ : LB}
structure Outer (w w' : World) : Prop where
 os : w'.os = w.os
 tape : w'.tape = w.tape
 output : w'.output = w.output
theorem Outer.refl (w : World) : Outer w w := ⟨rfl, rfl, rfl⟩
theorem Outer.trans {a b c : World} (h : Outer a b) (k : Outer b c) : Outer a c := ⟨k.os.trans h.os, k.tape.trans h.tape, k.output.trans h.output⟩
structure But (b : Nat) (w w' : World) : Prop extends Outer w w' where
 size : w'.heap.size = w.heap.size
 same : ∀ k, k ≠ b → w'.heap[k]? = w.heap[k]?
theorem But.refl (b : Nat) (w : World) : But b w w := ⟨Outer.refl w, rfl, fun _ _ => rfl⟩
theorem But.trans {n : Nat} {a b c : World} (h : But n a b) (k : But n b c) : But n a c :=
 ⟨h.toOuter.trans k.toOuter, k.size.trans h.size, fun i hi => (k.same i hi).trans (h.same i hi)⟩
structure iG (o : Obj) (w w' : World) : Prop extends Outer w w' where
 heap : w'.heap = w.heap.push o
theorem iG.size {o : Obj} {w w' : World} (h : iG o w w') : w'.heap.size = w.heap.size + 1 := by rw [h.heap]; simp
theorem iG.at {o : Obj} {w w' : World} (h : iG o w w') : w'.heap[w.heap.size]? = some o := by rw [h.heap]; simp
theorem iG.old {o : Obj} {w w' : World} (h : iG o w w') (k : Nat) (hk : k < w.heap.size) : w'.heap[k]? = w.heap[k]? := by
 rw [h.heap, Array.getElem?_push, if_neg (by omega)]
theorem x7.bm {ρ ρ' : aF} {w w' : World} {cells : List AV} {top : Nat} {frz : Bool} {ty : TypeId} {id g : Nat} (hx : Ext ρ ρ')
  (hk : ∀ pl, ρ id g = some pl → w'.heap[pl.b]? = w.heap[pl.b]?) (h : x7 ρ w cells top frz ty id g) : x7 ρ' w' cells top frz ty id g := by
 obtain ⟨pl, C, fr, h1, h2, h3, h4, h5, h6, h7, h8⟩ := h;refine ⟨pl, C, fr, hx _ _ _ h1, (hk pl h1).trans h2, h3, h4, h5, fun i hi => ?_, h7, h8⟩
 obtain ⟨x, v, a, b, c, d⟩ := h6 i hi;exact ⟨x, v, a, b, c.mono hx _ _, d⟩
theorem ot.bm {ρ ρ' : aF} {w w' : World} {id : Nat} {o : bW} (hx : Ext ρ ρ')
  (hk : ∀ g pl, ρ id g = some pl → w'.heap[pl.b]? = w.heap[pl.b]?) (h : ot ρ w id o) : ot ρ' w' id o := by
 cases o with
 | row cells low top frz ty =>
  refine ⟨h.1, fun g h1 h2 => (h.2.1 g h1 h2).bm hx (hk g), fun g k p q a1 a2 a3 a4 hp hq hb => ?_⟩
  obtain ⟨p', _, _, e1, _⟩ := h.2.1 g a1 a2;obtain ⟨q', _, _, e2, _⟩ := h.2.1 k a3 a4;have f1 := hx _ _ _ e1;have f2 := hx _ _ _ e2;rw [hp] at f1; rw [hq] at f2
  cases f1; cases f2
  exact h.2.2 g k _ _ a1 a2 a3 a4 e1 e2 hb
 | map es clock =>
  obtain ⟨pl, ES, h1, h2, h3⟩ := h;exact ⟨pl, ES, hx _ _ _ h1, (hk 0 pl h1).trans h2, h3.mono hx⟩
 | dS x =>
  obtain ⟨pl, o, h1, h2, h3, h4⟩ := h;exact ⟨pl, o, hx _ _ _ h1, (hk 0 pl h1).trans h2, h3.mono hx, h4⟩
theorem sG {o : bW} (h : ∀ a b c d t, o ≠ .row a b c d t) : ¬ x9 o := fun ⟨_, _, _, _, e⟩ => h _ _ _ _ _ e
theorem iw {c : List AV} {l t : Nat} {ty : TypeId} : ¬ x9 (.row c l t false ty) := fun ⟨_, _, _, _, e⟩ => by cases e
theorem R.change {ρ ρ' : aF} {S : AS} {w w' : World} {id : Nat} {o' : bW} {next' : Nat} (h : R Λ ρ S w) (B : Nat → Prop)
  (hext : Ext ρ ρ') (CE : ∀ i g, i ≠ id → ρ' i g = ρ i g) (gr : Outer w w')
  (fi : w.heap.size ≤ w'.heap.size) (nM : ∀ k, k < w.heap.size → ¬ B k → w'.heap[k]? = w.heap[k]?)
  (hB : ∀ k, k < w.heap.size → B k → ∃ o g pl, S.h.get id = some o ∧ ¬ x9 o ∧ ρ id g = some pl ∧ pl.b = k)
  (hfz : ∀ o, S.h.get id = some o → x9 o → x9 o')
  (hB' : ∀ i o g pl, i ≠ id → S.h.get i = some o → ρ i g = some pl → ¬ B pl.b)
  (hobj : ot ρ' w' id o') (htop : ∀ cells low top frz ty, o' = .row cells low top frz ty → ∀ g, top < g → ρ' id g = none)
  (aL : ∀ g pl, ρ' id g = some pl → pl.b < w'.heap.size ∧ ((∃ o g', S.h.get id = some o ∧ ∃ cq, ρ id g' = some cq ∧ cq.b = pl.b) ∨ w.heap.size ≤ pl.b))
  (hnext : S.next ≤ next') (bY : id < next') (hfr : ∀ g i, next' ≤ i → ρ' i g = none)
  (hpres : (∃ o, S.h.get id = some o) ∨ S.next ≤ id) :
  R Λ ρ' ⟨S.h.set id o', next'⟩ w' ∧ Kp ρ S w ρ' ⟨S.h.set id o', next'⟩ w' := by
 have hap : ∀ i o g g' pl cq, i ≠ id → S.h.get i = some o → ρ i g = some pl → ρ' id g' = some cq → pl.b ≠ cq.b ∨ (x9 o ∧ x9 o') := by
  intro i o g g' pl cq bO ho hp fR;rcases (aL g' cq fR).2 with ⟨o2, g2, qw, Ch, rG, e2⟩ | m9
  ·rcases h.apart i id o o2 g g2 pl Ch bO ho qw hp rG with h1 | h1
   ·exact .inl (by rw [← e2]; exact h1)
   ·exact .inr ⟨h1.1, hfz o2 qw h1.2⟩
  ·have := h.lt i o g pl ho hp
   exact .inl (by omega)
 have fj : ∀ i, i ≠ id → (S.h.set id o').get i = S.h.get i := fun i hi => ae _ _ hi
 have hmine : ∀ b, rD ρ' ⟨S.h.set id o', next'⟩ b → rD ρ S b ∨ w.heap.size ≤ b := by
  rintro b ⟨i, o, g, pl, ho, hp, rfl⟩
  by_cases hi : i = id
  ·subst hi
   rcases (aL g pl hp).2 with ⟨o2, g2, qw, Ch, rG, e2⟩ | m9
   ·exact .inl ⟨i, o2, g2, Ch, qw, rG, e2⟩
   ·exact .inr m9
  ·have gR : S.h.get i = some o := by rw [← fj i hi]; exact ho
   rw [CE i g hi] at hp;exact .inl ⟨i, o, g, pl, gR, hp, rfl⟩
 have hwrt : ∀ b, Bo ρ' ⟨S.h.set id o', next'⟩ b → Bo ρ S b ∨ w.heap.size ≤ b := by
  rintro b ⟨i, o, g, pl, ho, hnf, hp, rfl⟩
  by_cases hi : i = id
  ·subst hi
   rcases (aL g pl hp).2 with ⟨o2, g2, qw, Ch, rG, e2⟩ | m9
   ·refine .inl ⟨i, o2, g2, Ch, qw, fun hf => hnf ?_, rG, e2⟩
    have hg : (S.h.set i o').get i = some o := ho;rw [aa] at hg
    cases hg
    exact hfz o2 qw hf
   ·exact .inr m9
  ·have gR : S.h.get i = some o := by rw [← fj i hi]; exact ho
   rw [CE i g hi] at hp;exact .inl ⟨i, o, g, pl, gR, hnf, hp, rfl⟩
 refine ⟨⟨?_, ?_, fun i g => hfr g i, ?_, ?_, ?_, Nat.le_trans h.start fi, ?_⟩, ⟨hext, gr.os, gr.tape, gr.output, fi, ?_, hmine, hwrt, hnext, ?_⟩⟩
 ·intro i o ho
  by_cases hi : i = id
  ·subst hi; rw [aa] at ho; cases ho; exact hobj
  ·rw [fj i hi] at ho
   refine (h.dJ i o ho).bm hext fun g pl hp => nM _ (h.lt i o g pl ho hp) (hB' i o g pl hi ho hp)
 ·intro i o ho
  by_cases hi : i = id
  ·subst hi; exact bY
  ·rw [fj i hi] at ho; exact Nat.lt_of_lt_of_le (h.mT i o ho) hnext
 ·intro i cells low top frz ty ho g hg
  by_cases hi : i = id
  ·subst hi; rw [aa] at ho; cases ho; exact htop _ _ _ _ _ rfl g hg
  ·rw [fj i hi] at ho; rw [CE i g hi]; exact h.jP i cells low top frz ty ho g hg
 ·intro i o g pl ho hp
  by_cases hi : i = id
  ·subst hi; exact (aL g pl hp).1
  ·rw [fj i hi] at ho; rw [CE i g hi] at hp; exact Nat.lt_of_lt_of_le (h.lt i o g pl ho hp) fi
 ·intro i j o oj g gj pl nE fW ho pV hp nd
  by_cases hi : i = id
  ·subst hi
   have hj : j ≠ i := fun e => fW e.symm
   rw [fj j hj] at pV; rw [CE j gj hj] at nd;rw [aa] at ho
   cases ho
   rcases hap j oj gj g nE pl hj pV nd hp with h1 | h1
   ·exact .inl fun e => h1 e.symm
   ·exact .inr ⟨h1.2, h1.1⟩
  ·rw [fj i hi] at ho; rw [CE i g hi] at hp
   by_cases hj : j = id
   ·subst hj
    rw [aa] at pV
    cases pV
    exact hap i o g gj pl nE hi ho hp nd
   ·rw [fj j hj] at pV; rw [CE j gj hj] at nd
    exact h.apart i j o oj g gj pl nE fW ho pV hp nd
 ·intro b hb
  obtain ⟨d1, d2, d3⟩ := h.base b hb;have d1' := Nat.lt_of_lt_of_le d1 h.start;exact ⟨d1, (nM b d1' fun hBb => d3 (let ⟨o, g, pl, x1, x2, x3, x4⟩ := hB b d1' hBb; ⟨id, o, g, pl, x1, x2, x3, x4⟩)).trans d2, fun hm => (hwrt b hm).elim d3 fun m9 => absurd d1' (Nat.not_lt.2 m9)⟩
 ·intro b hb hm
  exact nM b hb fun hBb => hm (let ⟨o, g, pl, x1, x2, x3, x4⟩ := hB b hb hBb; ⟨id, o, g, pl, x1, x2, x3, x4⟩)
 ·intro i g hi hn
  have bO : i ≠ id := by
   rintro rfl
   rcases hpres with ⟨o, ho⟩ | m9
   ·rw [ho] at hn; cases hn
   ·omega
  exact ⟨CE i g bO, by rw [fj i bO]; exact hn⟩
def put (ρ : aF) (id g : Nat) (pl : Pl) : aF := fun i j => if i = id ∧ j = g then some pl else ρ i j
theorem bh (ρ : aF) (id g : Nat) (pl : Pl) : put ρ id g pl id g = some pl := by simp [put]
theorem bH (ρ : aF) {id g i j : Nat} (pl : Pl) (h : ¬ (i = id ∧ j = g)) : put ρ id g pl i j = ρ i j := by simp only [put, if_neg h]
theorem fb {ρ : aF} {id g : Nat} (pl : Pl) (h : ρ id g = none) : Ext ρ (put ρ id g pl) := by
 intro i j p hp;rw [bH _ _ (by rintro ⟨rfl, rfl⟩; rw [h] at hp; cases hp)]; exact hp
theorem R.newRowF {ρ : aF} {S : AS} {w w' : World} {cells : List AV} {C : Array Value} {e : TypeId} {fr : Nat × Nat} {frz : Bool} (h : R Λ ρ S w) (hg : iG (.cells C e fr) w w') (hfr : frz = false → ∀ i, i ≤ C.size → Ax fr i = false)
  (hl : al ρ cells (C.toList.take cells.length)) (hC : cells.length ≤ C.size) (h1 : dG C) :
  ∃ ρ' pl, ρ' S.next 0 = some pl ∧ pl.b = w.heap.size ∧ pl.base = 0 ∧ pl.n = cells.length ∧ pl.N = C.size ∧
   R Λ ρ' ⟨S.h.set S.next (.row cells 0 0 frz e), S.next + 1⟩ w' ∧ Kp ρ S w ρ' ⟨S.h.set S.next (.row cells 0 0 frz e), S.next + 1⟩ w' := by
 have hx := fb (ρ := ρ) (id := S.next) (g := 0) ⟨w.heap.size, 0, cells.length, C.size, by simpa using hC⟩ (h.fresh _ _ (Nat.le_refl _))
 refine ⟨put ρ S.next 0 ⟨w.heap.size, 0, cells.length, C.size, by simpa using hC⟩, _, bh _ _ _ _, rfl, rfl, rfl, rfl, ?_⟩
 refine h.change (fun _ => False) hx ?_ hg.toOuter ?_ ?_ ?_ ?_ ?_ ?_ ?_ ?_ ?_ ?_ ?_ ?_
 ·exact fun i g hi => bH _ _ (fun e => hi e.1)
 ·rw [hg.size]; omega
 ·exact fun k hk _ => hg.old k hk
 ·exact fun _ _ hf => hf.elim
 ·exact fun o ho _ => absurd (h.mT _ o ho) (Nat.lt_irrefl _)
 ·exact fun _ _ _ _ _ _ _ hf => hf
 ·refine ⟨Nat.le_refl _, fun g _ hg0 => ?_, fun g k p q _ a2 _ a4 pU hq1 _ => by
   obtain rfl : g = 0 := by omega
   obtain rfl : k = 0 := by omega
   rw [pU] at hq1; cases hq1; rfl⟩
  obtain rfl : g = 0 := by omega
  refine ⟨_, C, fr, bh _ _ _ _, hg.at, rfl, by simpa using hC, Nat.le_refl _, fun i hi => ?_, fun _ => rfl, hfr, fun _ => rfl, fun _ => h1⟩
  dsimp only at hi ⊢
  obtain ⟨x, hxx⟩ : ∃ x, cells[i]? = some x := ⟨cells[i], by simp [List.getElem?_eq_getElem hi]⟩
  obtain ⟨v, hv, hr⟩ := hl.get hxx;rw [List.getElem?_take, if_pos hi] at hv;exact ⟨x, v, hxx, by simpa using hv, hr.mono hx _ _, h1 i v (by simpa using hv)⟩
 ·intro cells' low top frz ty he g hgt
  cases he
  rw [bH _ _ (by omega)]
  exact h.fresh _ _ (Nat.le_refl _)
 ·intro g pl hp
  by_cases hg0 : g = 0
  ·subst hg0; rw [bh] at hp; cases hp; exact ⟨by rw [hg.size]; simp, .inr (Nat.le_refl _)⟩
  ·rw [bH _ _ (by omega), h.fresh _ _ (Nat.le_refl _)] at hp; cases hp
 ·omega
 ·omega
 ·intro g i hi
  rw [bH _ _ (by omega)]
  exact h.fresh _ _ (by omega)
 ·exact .inr (Nat.le_refl _)
theorem R.newRow {ρ : aF} {S : AS} {w w' : World} {cells : List AV} {C : Array Value} {e : TypeId} (h : R Λ ρ S w) (hg : iG (.cells C e) w w')
  (hl : al ρ cells (C.toList.take cells.length)) (hC : cells.length ≤ C.size) (h1 : dG C) :
  ∃ ρ' pl, ρ' S.next 0 = some pl ∧ pl.b = w.heap.size ∧ pl.base = 0 ∧ pl.n = cells.length ∧ pl.N = C.size ∧
   R Λ ρ' ⟨S.h.set S.next (.row cells 0 0 false e), S.next + 1⟩ w' ∧ Kp ρ S w ρ' ⟨S.h.set S.next (.row cells 0 0 false e), S.next + 1⟩ w' :=
 h.newRowF hg (fun _ i _ => by simp [Ax]) hl hC h1
theorem R.newMap {ρ : aF} {S : AS} {w w' : World} {es : List aX} {clock : Nat} {ES : Array MapEntry} (h : R Λ ρ S w) (hg : iG (.map ES clock) w w') (hl : dM ρ es ES.toList) :
  ∃ ρ' pl, ρ' S.next 0 = some pl ∧ pl.b = w.heap.size ∧ R Λ ρ' ⟨S.h.set S.next (.map es clock), S.next + 1⟩ w' ∧ Kp ρ S w ρ' ⟨S.h.set S.next (.map es clock), S.next + 1⟩ w' := by
 have hx := fb (ρ := ρ) (id := S.next) (g := 0) ⟨w.heap.size, 0, 0, 0, Nat.le_refl _⟩ (h.fresh _ _ (Nat.le_refl _));refine ⟨put ρ S.next 0 ⟨w.heap.size, 0, 0, 0, Nat.le_refl _⟩, _, bh _ _ _ _, rfl, ?_⟩;refine h.change (fun _ => False) hx ?_ hg.toOuter ?_ ?_ ?_ ?_ ?_ ?_ ?_ ?_ ?_ ?_ ?_ ?_
 ·exact fun i g hi => bH _ _ (fun e => hi e.1)
 ·rw [hg.size]; omega
 ·exact fun k hk _ => hg.old k hk
 ·exact fun _ _ hf => hf.elim
 ·exact fun o ho _ => absurd (h.mT _ o ho) (Nat.lt_irrefl _)
 ·exact fun _ _ _ _ _ _ _ hf => hf
 ·exact ⟨_, ES, bh _ _ _ _, hg.at, hl.mono hx⟩
 ·intro cells' low top frz ty he; cases he
 ·intro g pl hp
  by_cases hg0 : g = 0
  ·subst hg0; rw [bh] at hp; cases hp; exact ⟨by rw [hg.size]; simp, .inr (Nat.le_refl _)⟩
  ·rw [bH _ _ (by omega), h.fresh _ _ (Nat.le_refl _)] at hp; cases hp
 ·omega
 ·omega
 ·intro g i hi
  rw [bH _ _ (by omega)]
  exact h.fresh _ _ (by omega)
 ·exact .inr (Nat.le_refl _)
theorem R.pI {ρ : aF} {S : AS} {w w' : World} {id : Nat} {o : bW} {pl : Pl} {es : List aX} {clock : Nat} {ES : Array MapEntry} (h : R Λ ρ S w)
  (ho : S.h.get id = some o) (hnr : ∀ a b c d t, o ≠ .row a b c d t) (hp : ρ id 0 = some pl) (hb : But pl.b w w') (hw : w'.heap[pl.b]? = some (.map ES clock)) (hl : dM ρ es ES.toList) :
  R Λ ρ ⟨S.h.set id (.map es clock), S.next⟩ w' ∧ Kp ρ S w ρ ⟨S.h.set id (.map es clock), S.next⟩ w' := by
 refine h.change (fun k => k = pl.b) (Ext.refl _) (fun _ _ _ => rfl) hb.toOuter (Nat.le_of_eq hb.size.symm) (fun k _ hk => hb.same k hk) ?_ ?_ ?_ ?_ ?_ ?_ (Nat.le_refl _) (h.mT id o ho) (fun g i hi => h.fresh i g hi) (.inl ⟨o, ho⟩)
 ·rintro k _ rfl; exact ⟨o, 0, pl, ho, sG hnr, hp, rfl⟩
 ·intro o2 qw hf; rw [ho] at qw; cases qw; exact (sG hnr hf).elim
 ·intro i oi g pli hi hoi DP he
  exact (h.apart i id oi o g 0 pli pl hi hoi ho DP hp).elim (fun h1 => h1 he) (fun h1 => sG hnr h1.2)
 ·exact ⟨pl, ES, hp, hw, hl⟩
 ·intro a b c d t he; cases he
 ·intro g cq fR
  exact ⟨by rw [hb.size]; exact h.lt id o g cq ho fR, .inl ⟨o, g, ho, cq, fR, rfl⟩⟩
theorem R.Ad {ρ : aF} {S : AS} {w w' : World} {x : Bk} {o : Obj} (h : R Λ ρ S w) (hg : iG o w w') (hl : gE ρ x o) :
  ∃ ρ' pl, ρ' S.next 0 = some pl ∧ pl.b = w.heap.size ∧ pl.base = 0 ∧ R Λ ρ' ⟨S.h.set S.next (.dS x), S.next + 1⟩ w' ∧ Kp ρ S w ρ' ⟨S.h.set S.next (.dS x), S.next + 1⟩ w' := by
 have hx := fb (ρ := ρ) (id := S.next) (g := 0) ⟨w.heap.size, 0, 0, 0, Nat.le_refl _⟩ (h.fresh _ _ (Nat.le_refl _));refine ⟨put ρ S.next 0 ⟨w.heap.size, 0, 0, 0, Nat.le_refl _⟩, _, bh _ _ _ _, rfl, rfl, ?_⟩;refine h.change (fun _ => False) hx ?_ hg.toOuter ?_ ?_ ?_ ?_ ?_ ?_ ?_ ?_ ?_ ?_ ?_ ?_
 ·exact fun i g hi => bH _ _ (fun e => hi e.1)
 ·rw [hg.size]; omega
 ·exact fun k hk _ => hg.old k hk
 ·exact fun _ _ hf => hf.elim
 ·exact fun o ho _ => absurd (h.mT _ o ho) (Nat.lt_irrefl _)
 ·exact fun _ _ _ _ _ _ _ hf => hf
 ·exact ⟨_, o, bh _ _ _ _, hg.at, hl.mono hx, rfl⟩
 ·intro cells' low top frz ty he; cases he
 ·intro g pl hp
  by_cases hg0 : g = 0
  ·subst hg0; rw [bh] at hp; cases hp; exact ⟨by rw [hg.size]; simp, .inr (Nat.le_refl _)⟩
  ·rw [bH _ _ (by omega), h.fresh _ _ (Nat.le_refl _)] at hp; cases hp
 ·omega
 ·omega
 ·intro g i hi
  rw [bH _ _ (by omega)]
  exact h.fresh _ _ (by omega)
 ·exact .inr (Nat.le_refl _)
theorem R.zN {ρ : aF} {S : AS} {w w' : World} {id : Nat} {o : bW} {pl : Pl} {x : Bk} {O : Obj} (h : R Λ ρ S w)
  (ho : S.h.get id = some o) (hnr : ∀ a b c d t, o ≠ .row a b c d t) (hp : ρ id 0 = some pl) (hb : But pl.b w w') (hw : w'.heap[pl.b]? = some O) (hl : gE ρ x O) (hb0 : pl.base = 0) :
  R Λ ρ ⟨S.h.set id (.dS x), S.next⟩ w' ∧ Kp ρ S w ρ ⟨S.h.set id (.dS x), S.next⟩ w' := by
 refine h.change (fun k => k = pl.b) (Ext.refl _) (fun _ _ _ => rfl) hb.toOuter (Nat.le_of_eq hb.size.symm) (fun k _ hk => hb.same k hk) ?_ ?_ ?_ ?_ ?_ ?_ (Nat.le_refl _) (h.mT id o ho) (fun g i hi => h.fresh i g hi) (.inl ⟨o, ho⟩)
 ·rintro k _ rfl; exact ⟨o, 0, pl, ho, sG hnr, hp, rfl⟩
 ·intro o2 qw hf; rw [ho] at qw; cases qw; exact (sG hnr hf).elim
 ·intro i oi g pli hi hoi DP he
  exact (h.apart i id oi o g 0 pli pl hi hoi ho DP hp).elim (fun h1 => h1 he) (fun h1 => sG hnr h1.2)
 ·exact ⟨pl, O, hp, hw, hl, hb0⟩
 ·intro a b c d t he; cases he
 ·intro g cq fR
  exact ⟨by rw [hb.size]; exact h.lt id o g cq ho fR, .inl ⟨o, g, ho, cq, fR, rfl⟩⟩
theorem R.write {ρ : aF} {S : AS} {w w' : World} {id low top : Nat} {cells cells' : List AV} {pl : Pl} {C C' : Array Value} {e : TypeId} {fr : Nat × Nat} (h : R Λ ρ S w)
  (ho : S.h.get id = some (.row cells low top false e)) (hp : ρ id top = some pl) (hw : w.heap[pl.b]? = some (.cells C e fr))
  (hb : But pl.b w w') (At : w'.heap[pl.b]? = some (.cells C' e fr)) (hC : C'.size = C.size) (hc : cells'.length = cells.length)
  (jH : dG C → dG C')
  (hpt : ∀ i, i < cells.length → ∃ x v, cells'[i]? = some x ∧ C'[pl.base + i]? = some v ∧ ah ρ x v ∧ v.oneCell' = true) :
  R Λ ρ ⟨S.h.set id (.row cells' top top false e), S.next⟩ w' ∧ Kp ρ S w ρ ⟨S.h.set id (.row cells' top top false e), S.next⟩ w' := by
 obtain ⟨aL, hgs, _⟩ := h.dJ id _ ho;obtain ⟨cq, D, fr', g1, g2, g3, g4, g5, g6, g7, g8, g9⟩ := hgs top aL (Nat.le_refl _);rw [hp] at g1; cases g1;rw [hw] at g2; cases g2;refine h.change (fun k => k = pl.b) (Ext.refl _) (fun _ _ _ => rfl) hb.toOuter (Nat.le_of_eq hb.size.symm) (fun k _ hk => hb.same k hk) ?_ ?_ ?_ ?_ ?_ ?_ (Nat.le_refl _) (h.mT id _ ho) (fun g i hi => h.fresh i g hi) (.inl ⟨_, ho⟩)
 ·rintro k _ rfl; exact ⟨_, top, pl, ho, iw, hp, rfl⟩
 ·intro o2 qw hf; rw [ho] at qw; cases qw; exact (iw hf).elim
 ·intro i oi g pli hi hoi DP he
  exact (h.apart i id oi _ g top pli pl hi hoi ho DP hp).elim (fun h1 => h1 he) (fun h1 => iw h1.2)
 ·refine ⟨Nat.le_refl _, fun g h1 h2 => ?_, fun g k p q a1 a2 a3 a4 pU hq1 _ => by
   obtain rfl : g = top := by omega
   obtain rfl : k = g := by omega
   rw [pU] at hq1; cases hq1; rfl⟩
  obtain rfl : g = top := by omega
  refine ⟨pl, C', fr, hp, At, hC.trans g3, g4, by rw [g7 rfl, hc]; exact Nat.le_refl _, fun i hi => hpt i (by rw [g7 rfl] at hi; exact hi), fun _ => by rw [g7 rfl, hc], g8, g9.1, fun h => jH (g9.2 h)⟩
 ·intro a b c d t he g hg
  cases he
  exact h.jP id _ _ _ _ _ ho g hg
 ·intro g cq fR
  exact ⟨by rw [hb.size]; exact h.lt id _ g cq ho fR, .inl ⟨_, g, ho, cq, fR, rfl⟩⟩
theorem R.gen {ρ : aF} {S : AS} {w w' : World} {id low top low' : Nat} {cells cells' : List AV} {frz : Bool} {ty : TypeId} {pl : Pl} (h : R Λ ρ S w)
  (ho : S.h.get id = some (.row cells low top frz ty)) (hlow' : low ≤ low') (hlt' : low' ≤ top + 1)
  (gr : Outer w w') (fi : w.heap.size ≤ w'.heap.size)
  (nM : ∀ k, k < w.heap.size → k ≠ pl.b → w'.heap[k]? = w.heap[k]?)
  (lH : (∃ g cq, ρ id g = some cq ∧ cq.b = pl.b) ∨ w.heap.size ≤ pl.b) (hpb : pl.b < w'.heap.size)
  (hfalse : frz = false)
  (jq : x7 (put ρ id (top + 1) pl) w' cells' (top + 1) false ty id (top + 1))
  (hold : ∀ g, low' ≤ g → g ≤ top → x7 (put ρ id (top + 1) pl) w' cells' (top + 1) false ty id g)
  (hsb : ∀ g p, low' ≤ g → g ≤ top → ρ id g = some p → p.b = pl.b → p.base = pl.base) :
  R Λ (put ρ id (top + 1) pl) ⟨S.h.set id (.row cells' low' (top + 1) false ty), S.next⟩ w' ∧
   Kp ρ S w (put ρ id (top + 1) pl) ⟨S.h.set id (.row cells' low' (top + 1) false ty), S.next⟩ w' := by
 subst hfalse;have hx := fb (ρ := ρ) (id := id) (g := top + 1) pl (h.jP id _ _ _ _ _ ho _ (by omega))
 refine h.change (fun k => k = pl.b ∧ k < w.heap.size) hx (fun i g hi => bH _ _ (fun e => hi e.1)) gr fi (fun k hk uE => nM k hk (fun e => uE ⟨e, hk⟩)) ?_ ?_ ?_ ?_ ?_ ?_ (Nat.le_refl _) (h.mT id _ ho) ?_ (.inl ⟨_, ho⟩)
 ·rintro k hk ⟨rfl, _⟩
  rcases lH with ⟨g, cq, fR, e'⟩ | m9
  ·exact ⟨_, g, cq, ho, iw, fR, e'⟩
  ·omega
 ·intro o2 qw hf; rw [ho] at qw; cases qw; exact (iw hf).elim
 ·rintro i oi g pli hi hoi DP ⟨he, aL⟩
  rcases lH with ⟨g', cq, fR, e'⟩ | m9
  ·exact (h.apart i id oi _ g g' pli cq hi hoi ho DP fR).elim (fun h1 => h1 (by rw [e']; exact he)) (fun h1 => iw h1.2)
  ·omega
 ·refine ⟨hlt', fun g h1 h2 => ?_, fun g k p q a1 a2 a3 a4 hp hq hb => ?_⟩
  ·by_cases hg : g = top + 1
   ·subst hg; exact jq
   ·exact hold g h1 (by omega)
  ·by_cases hg : g = top + 1
   ·subst hg
    rw [bh] at hp; cases hp
    by_cases hk : k = top + 1
    ·subst hk; rw [bh] at hq; cases hq; rfl
    ·rw [bH _ _ (by omega)] at hq
     exact (hsb k q a3 (by omega) hq hb.symm).symm
   ·rw [bH _ _ (by omega)] at hp
    by_cases hk : k = top + 1
    ·subst hk; rw [bh] at hq; cases hq
     exact hsb g p a1 (by omega) hp hb
    ·rw [bH _ _ (by omega)] at hq
     exact (h.dJ id _ ho).2.2 g k p q (Nat.le_trans hlow' a1) (by omega) (Nat.le_trans hlow' a3) (by omega) hp hq hb
 ·intro a b c d t he g hg
  cases he
  rw [bH _ _ (by omega)]
  exact h.jP id _ _ _ _ _ ho g (by omega)
 ·intro g cq fR
  by_cases hg : g = top + 1
  ·subst hg; rw [bh] at fR; cases fR
   refine ⟨hpb, ?_⟩;rcases lH with ⟨g, cq, fR, e'⟩ | m9
   ·exact .inl ⟨_, g, ho, cq, fR, e'⟩
   ·exact .inr m9
  ·rw [bH _ _ (by omega)] at fR
   exact ⟨Nat.lt_of_lt_of_le (h.lt id _ g cq ho fR) fi, .inl ⟨_, g, ho, cq, fR, rfl⟩⟩
 ·intro g i hi
  rw [bH _ _ (by rintro ⟨rfl, _⟩; exact absurd (h.mT _ _ ho) (Nat.not_lt.2 hi))]
  exact h.fresh i g hi
end Go.Am
