/-
  The abstract machine: a function that grows a row, whose room the machine does not know, becomes one that it need not enter.
-/
import Derived.Test.YtfempihpphbgmaaGreatAmKept
namespace Go.Am
open Go
set_option linter.unusedVariables false
variable {Λ : LB}
theorem R.roomy {ρ : aF} {S : AS} {w : World} (hR : R Λ ρ S w) {id low top n sz : Nat} {cells : List AV} {ty : TypeId} {x : Value} (ho : S.h.get id = some (.row cells low top false ty))
  (hn : cells.length = n * sz) (h0 : 0 < n) (hv : ah ρ (.slice id top 0 n (n * sz) sz none) x) :
  ∃ c pl, n ≤ c ∧ ρ id (top + 1) = none ∧ ah (put ρ id (top + 1) pl) (.slice id (top + 1) 0 n (c * sz) sz (some c)) x ∧
   R Λ (put ρ id (top + 1) pl) ⟨S.h.set id (.row (cells ++ List.replicate (c * sz - n * sz) .top) (top + 1) (top + 1) false ty), S.next⟩ w ∧
   Kp ρ S w (put ρ id (top + 1) pl) ⟨S.h.set id (.row (cells ++ List.replicate (c * sz - n * sz) .top) (top + 1) (top + 1) false ty), S.next⟩ w := by
 simp only [ah] at hv;obtain ⟨pl, c, p1, p2, p3, p4, p5, hh⟩ := hv;have pW := hR.jP id _ _ _ _ _ ho (top + 1) (Nat.lt_succ_self _);rcases hh with ⟨e1, e2, e3⟩ | ⟨e1, _⟩
 case inr => omega
 have hcz : n * sz ≤ c * sz := Nat.mul_le_mul_right _ p5;have hle : pl.base + c * sz ≤ pl.N := by omega
 let cq : Pl := ⟨pl.b, pl.base, c * sz, pl.N, hle⟩
 have hx := fb (ρ := ρ) (id := id) (g := top + 1) cq pW;obtain ⟨aL, hgs, hsb⟩ := hR.dJ id _ ho;obtain ⟨pl0, C, fr, g1, g2, g3, g4, g5, g6, g7, g8, g9, g10⟩ := hgs top aL (Nat.le_refl _);rw [p1] at g1; cases g1;refine ⟨c, cq, p5, pW, ?_, ?_⟩
 ·refine ah.dr cq c (bh _ _ _ _) (Nat.le_refl _) (by show 0 + n * sz ≤ c * sz; omega) p4 p5 (.inl ⟨?_, ?_, fun k hk => ?_⟩)
  ·rw [e1]
  ·show pl.base + 0 + c * sz ≤ pl.N; omega
  ·cases hk; exact ⟨rfl, by omega⟩
 ·refine hR.gen ho (Nat.le_succ_of_le aL) (Nat.le_refl _) ⟨rfl, rfl, rfl⟩ (Nat.le_refl _) (fun _ _ _ => rfl) (.inl ⟨top, pl, p1, rfl⟩) (hR.lt id _ top pl ho p1) rfl ?_ (fun g h1 h2 => by omega) (fun g p h1 h2 => by omega)
  refine ⟨cq, C, fr, bh _ _ _ _, g2, g3, hle, by simp only [List.length_append, List.length_replicate, hn]; show c * sz ≤ _; omega, fun i hi => ?_, fun _ => by simp only [List.length_append, List.length_replicate, hn]; show c * sz = _; omega, fun _ => g8 rfl, fun h => by (cases h), g10⟩
  have b9 : i < c * sz := hi
  by_cases lI : i < n * sz
  ·obtain ⟨y, v, q1, q2, q3, q4⟩ := g6 i (by have := g7 rfl; omega)
   exact ⟨y, v, by rw [List.getElem?_append_left (by omega)]; exact q1, q2, q3.mono hx _ _, q4⟩
  ·have aL : pl.base + i < C.size := by rw [g3]; omega
   obtain ⟨v, hv⟩ : ∃ v, C[pl.base + i]? = some v := ⟨_, Array.getElem?_eq_getElem aL⟩;exact ⟨.top, v, by rw [List.getElem?_append_right (by omega), List.getElem?_replicate, if_pos (by omega)], hv, by simp [ah], g10 rfl _ v hv⟩
theorem R.land {ρ ρ' : aF} {S T : AS} {w w' : World} (hR : R Λ ρ S w) (hT : R Λ ρ' T w') (hK : Kp ρ S w ρ' T w') {id jd low top lowT topT m : Nat} {cells cellsT cells' : List AV} {ty : TypeId} {pM : Pl}
  (ho : S.h.get id = some (.row cells low top false ty)) (hoT : ∃ c l, T.h.get id = some (.row c l (top + 1) false ty))
  (hold : ∀ j, j ≠ id → j < S.next → T.h.get j = S.h.get j) (hj : jd = id ∨ S.next ≤ jd)
  (hjT : T.h.get jd = some (.row cellsT lowT topT false ty)) (hp : ρ' jd topT = some pM) (hm : m ≤ cellsT.length) (hc : cells' = cellsT.take m) (hf : cP (bQ 2) cells' = true) :
  ∃ (hle : pM.base + m ≤ pM.N),
  R Λ (fun i g => if i = id ∧ g = top + 1 then some ⟨pM.b, pM.base, m, pM.N, hle⟩ else if i < S.next then ρ' i g else none) ⟨S.h.set id (.row cells' (top + 1) (top + 1) false ty), S.next⟩ w' ∧
   Kp ρ S w (fun i g => if i = id ∧ g = top + 1 then some ⟨pM.b, pM.base, m, pM.N, hle⟩ else if i < S.next then ρ' i g else none) ⟨S.h.set id (.row cells' (top + 1) (top + 1) false ty), S.next⟩ w' := by
 obtain ⟨cT, lT, hoT⟩ := hoT;obtain ⟨b1, b2, b3⟩ := hT.dJ jd _ hjT;obtain ⟨pl0, C, fr, g1, g2, g3, g4, g5, g6, g7, g8, g9, g10⟩ := b2 topT b1 (Nat.le_refl _);rw [hp] at g1; cases g1;have hmn : m ≤ pM.n := by rw [g7 rfl]; exact hm
 have hle : pM.base + m ≤ pM.N := by omega
 refine ⟨hle, ?_⟩;have bY := hR.mT id _ ho;have pY : cells'.length = m := by rw [hc, List.length_take]; omega
 generalize hρ : (fun i g => if i = id ∧ g = top + 1 then some ⟨pM.b, pM.base, m, pM.N, hle⟩ else if i < S.next then ρ' i g else none : aF) = ρ3
 have r1 : ρ3 id (top + 1) = some ⟨pM.b, pM.base, m, pM.N, hle⟩ := by rw [← hρ]; simp
 have r2 : ∀ i g, ¬ (i = id ∧ g = top + 1) → i < S.next → ρ3 i g = ρ' i g := fun i g h1 h2 => by rw [← hρ]; simp only [if_neg h1, if_pos h2]
 have r3 : ∀ i g, S.next ≤ i → ρ3 i g = none := fun i g h1 => by
  rw [← hρ]; simp only [if_neg (show ¬ (i = id ∧ g = top + 1) from fun h => by omega), if_neg (Nat.not_lt.2 h1)]
 have hx : Ext ρ ρ3 := by
  intro i g pl lH;have hi : i < S.next := by
   rcases Nat.lt_or_ge i S.next with hh | hh
   ·exact hh
   ·rw [hR.fresh i g hh] at lH; cases lH
  have bO : ¬ (i = id ∧ g = top + 1) := by
   rintro ⟨rfl, rfl⟩
   rw [hR.jP i _ _ _ _ _ ho _ (Nat.lt_succ_self _)] at lH; cases lH
  rw [r2 i g bO hi];exact hK.ext i g pl lH
 have back : ∀ i o g pl, (S.h.set id (.row cells' (top + 1) (top + 1) false ty)).get i = some o → ρ3 i g = some pl → ∃ i' o' g' cq, T.h.get i' = some o' ∧ ρ' i' g' = some cq ∧ cq.b = pl.b ∧ (¬ x9 o → ¬ x9 o') ∧ (i ≠ id → i' = i ∧ o' = o) ∧ (i = id → i' = id ∨ i' = jd) := by
  intro i o g pl hi hp3
  by_cases qX : i = id
  ·subst qX
   by_cases hg : g = top + 1
   ·subst hg
    rw [r1] at hp3; cases hp3;exact ⟨jd, _, topT, pM, hjT, hp, rfl, fun _ => iw, fun h => absurd rfl h, fun _ => .inr rfl⟩
   ·rw [r2 i g (fun h => hg h.2) bY] at hp3
    exact ⟨i, _, g, pl, hoT, hp3, rfl, fun _ => iw, fun h => absurd rfl h, fun _ => .inl rfl⟩
  ·rw [ae _ _ qX] at hi
   have aL := hR.mT i o hi;rw [r2 i g (fun h => qX h.1) aL] at hp3
   exact ⟨i, o, g, pl, by rw [hold i qX aL]; exact hi, hp3, rfl, fun h => h, fun _ => ⟨rfl, rfl⟩, fun h => absurd h qX⟩
 have hO : ∀ i o, (S.h.set id (.row cells' (top + 1) (top + 1) false ty)).get i = some o → ot ρ3 w' i o := by
  intro i o hi
  by_cases qX : i = id
  ·subst qX
   rw [aa] at hi
   cases hi
   refine ⟨Nat.le_refl _, fun g h1 h2 => ?_, fun g k p q a1 a2 a3 a4 pU hq1 _ => by
    obtain rfl : g = top + 1 := by omega
    obtain rfl : k = top + 1 := by omega
    rw [pU] at hq1; cases hq1; rfl⟩
   obtain rfl : g = top + 1 := by omega
   refine ⟨_, C, fr, r1, g2, g3, hle, by rw [pY]; exact Nat.le_refl _, fun k hk => ?_, fun _ => pY.symm, fun _ => g8 rfl, fun h => by (cases h), g10⟩
   have uE : k < m := hk;obtain ⟨y, v, q1, q2, q3, q4⟩ := g6 k (by omega)
   have hy : cells'[k]? = some y := by rw [hc, List.getElem?_take, if_pos uE]; exact q1
   refine ⟨y, v, hy, q2, ?_, q4⟩;have gen : ∀ (l : List AV) (n : Nat) (y : AV), cP (bQ 2) l = true → l[n]? = some y → bQ 2 y = true := by
    intro l
    induction l with
    | nil => intro n y _ h; simp at h
    | cons z l ih =>
     intro n y h hy;simp only [cP, Bool.and_eq_true] at h
     cases n with
     | zero => simp at hy; subst hy; exact h.1
     | succ n => exact ih n y h.2 (by simpa using hy)
   exact nQ 2 y v _ _ (gen _ _ _ hf hy) q3
  ·rw [ae _ _ qX] at hi
   have aL := hR.mT i o hi;exact ot.restrict hx hK.ext (fun g => r2 i g (fun h => qX h.1) aL) (hR.dJ i o hi) (hT.dJ i o (by rw [hold i qX aL]; exact hi))
 refine ⟨⟨hO, ?_, fun i g hi => r3 i g hi, ?_, ?_, ?_, hT.start, fun b hb => ?_⟩, ⟨hx, hK.os, hK.tape, hK.output, hK.size, hK.bm, fun b hb => ?_, fun b hb => ?_, Nat.le_refl _, fun i g hi hn => ?_⟩⟩
 ·intro i o hi
  by_cases qX : i = id
  ·subst qX; exact bY
  ·have hi : (S.h.set id (.row cells' (top + 1) (top + 1) false ty)).get i = some o := hi
   rw [ae _ _ qX] at hi; exact hR.mT i o hi
 ·intro i c l t f y hi g hg
  have hi : (S.h.set id (.row cells' (top + 1) (top + 1) false ty)).get i = some (.row c l t f y) := hi
  by_cases qX : i = id
  ·subst qX
   rw [aa] at hi
   cases hi
   rw [r2 i g (fun h => by omega) bY]
   exact hT.jP i _ _ _ _ _ hoT g hg
  ·rw [ae _ _ qX] at hi
   have aL := hR.mT i _ hi;rw [r2 i g (fun h => qX h.1) aL]
   exact hT.jP i _ _ _ _ _ (by rw [hold i qX aL]; exact hi) g hg
 ·intro i o g pl hi hp3
  obtain ⟨i', o', g', cq, t1, t2, t3, _⟩ := back i o g pl hi hp3;rw [← t3];exact hT.lt i' o' g' cq t1 t2
 ·intro i j o oj g gj pl nE fW hi rI DP nd
  obtain ⟨i', o', g', cq, t1, t2, t3, t4, t5, t6⟩ := back i o g pl hi DP;obtain ⟨j', oj', gj', plj', s1, s2, s3, s4, s5, s6⟩ := back j oj gj nE rI nd;have bO : i' ≠ j' := by
   by_cases qX : i = id
   ·by_cases hjj : j = id
    ·omega
    ·obtain ⟨rfl, _⟩ := s5 hjj
     have aL : j' < S.next := by
      have : (S.h.set id (.row cells' (top + 1) (top + 1) false ty)).get j' = some oj := rI;rw [ae _ _ hjj] at this;exact hR.mT j' oj this
     rcases t6 qX with h | h <;> omega
   ·obtain ⟨rfl, _⟩ := t5 qX
    have aL : i' < S.next := by
     have : (S.h.set id (.row cells' (top + 1) (top + 1) false ty)).get i' = some o := hi;rw [ae _ _ qX] at this;exact hR.mT i' o this
    by_cases hjj : j = id
    ·rcases s6 hjj with h | h <;> omega
    ·obtain ⟨rfl, _⟩ := s5 hjj
     exact fW
  rcases hT.apart i' j' o' oj' g' gj' cq plj' bO t1 s1 t2 s2 with h | ⟨h1, h2⟩
  ·exact .inl (by rw [← t3, ← s3]; exact h)
  ·refine .inr ⟨?_, ?_⟩
   ·exact Classical.byContradiction fun h => t4 h h1
   ·exact Classical.byContradiction fun h => s4 h h2
 ·obtain ⟨d1, d2, d3⟩ := hT.base b hb
  refine ⟨d1, d2, ?_⟩
  rintro ⟨i, o, g, pl, hi, hz, hp3, rfl⟩
  obtain ⟨i', o', g', cq, t1, t2, t3, t4, _⟩ := back i o g pl hi hp3;exact d3 ⟨i', o', g', cq, t1, t4 hz, t2, t3⟩
 ·obtain ⟨i, o, g, pl, hi, hp3, rfl⟩ := hb
  obtain ⟨i', o', g', cq, t1, t2, t3, _⟩ := back i o g pl hi hp3;exact hK.tZ _ ⟨i', o', g', cq, t1, t2, t3⟩
 ·obtain ⟨i, o, g, pl, hi, hz, hp3, rfl⟩ := hb
  obtain ⟨i', o', g', cq, t1, t2, t3, t4, _⟩ := back i o g pl hi hp3;exact hK.wrt _ ⟨i', o', g', cq, t1, t4 hz, t2, t3⟩
 ·have qX : i ≠ id := by rintro rfl; rw [ho] at hn; cases hn
  rw [r2 i g (fun h => qX h.1) hi]
  refine ⟨(hK.ma i g hi hn).1, ?_⟩;show (S.h.set id (.row cells' (top + 1) (top + 1) false ty)).get i = none;rw [ae _ _ qX]; exact hn
end Go.Am
