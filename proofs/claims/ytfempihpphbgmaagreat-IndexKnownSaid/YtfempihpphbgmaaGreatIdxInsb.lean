/-
  slices.Insert at entries as a function that need not be entered.
-/
import Derived.Test.YtfempihpphbgmaaGreatIdxIns
namespace Go.Proofs.YtfempihpphbgmaaGreat.ins
open Go Go.Am
set_option linter.unusedVariables false
set_option linter.unusedSimpArgs false
variable {Λ : LB}

theorem ins31n {S : AS} {bid : Nat} {x : List AV} (hx : S.h.get bid = some (.row x 0 0 false 80)) (hxl : x.length = 5) :
    CallW C8 31 [.nils, .int .i64 0, .slice bid 0 0 1 5 5 (some 1)] S fun v T => v = .slice S.next 0 0 1 5 5 none ∧ T = ⟨S.h.set S.next (.row x 0 0 false 80), S.next + 1⟩ := by
  have tx : taken S 5 (.slice bid 0 0 1 5 5 (some 1)) = some (0 + 1, x) := by
    rw [taken_at hx (Nat.le_refl _) (Nat.le_refl _) (by omega)]
    rw [List.drop_zero, List.take_of_length_le (by omega)]
  have ha : appendV S 80 5 48 .nils (.slice bid 0 0 1 5 5 (some 1)) = some (.slice S.next 0 0 1 5 5 none, ⟨S.h.set S.next (.row x 0 0 false 80), S.next + 1⟩) := by
    unfold appendV
    simp only [tx]
    show cond (fits 1 48) (some (grown S 80 1 5 x)) none = _
    rw [show fits 1 48 = true from by decide]
    rfl
  refine enterW (pu8 _) (pr8 _) fn31 rfl ok31 (by simp) fun F hn' hs => ?_
  rw [nt31] at hn'
  have s0 := hs 0
  have s1 := hs 1
  have s2 := hs 2
  clear hs
  simp only [List.getElem?_cons_zero, List.getElem?_cons_succ, Option.getD_some] at s0 s1 s2
  have hsl : ∀ F : Fr, sl F 11 = .int .i64 0 → sliceV C8 F 78 .nils (some (.tmp 11)) none none = some .nils := fun F h =>
    sliceV_sub (v := .nils) (l := 0) (k := 0) st78 rfl (by rw [bound_some]; simp [h, natOf_zero]) (by simp [bound_none, sLen_nils]) (Nat.le_refl _) (Nat.le_refl _)
  have hlen : ∀ S : AS, builtinV C8 S .len [78] [.nils] = .val (.int .i64 0) S := fun S => len_sl st78 rfl
  simp [s0, s1, s2, hsl, hlen, len_slice un78, append_at, ha]

/-- The answer: a new generation of the row with the entry put in. -/
noncomputable def insA (S : AS) (id g off n lim i bid : Nat) : Option (AV × AS) :=
  match S.h.get id, S.h.get bid with
  | some (.row cells _ top false ty), some (.row x lx tx false ty') =>
    cond (Nat.beq g top && Nat.beq off 0 && Nat.beq (Nat.mul n 5) lim && Nat.beq (lenL cells) lim && Nat.ble i n && Nat.blt 0 n && fits (Nat.succ n) 48 && Nat.beq ty 80 && Nat.beq ty' 80 && Nat.beq lx 0 && Nat.beq tx 0 && Nat.beq (lenL x) 5 && !Nat.beq bid id && flatL (flatF 2) cells && flatL (flatF 2) x)
      (some (.slice id (Nat.succ top) 0 (Nat.succ n) (Nat.mul (Nat.succ n) 5) 5 none, ⟨S.h.set id (.row (appL (takeN (Nat.mul i 5) cells) (appL x (dropN (Nat.mul i 5) cells))) (Nat.succ top) (Nat.succ top) false 80), S.next⟩)) none
  | _, _ => none
noncomputable def insN (S : AS) (bid : Nat) : Option (AV × AS) :=
  match S.h.get bid with
  | some (.row x lx tx false ty') =>
    cond (Nat.beq ty' 80 && Nat.beq lx 0 && Nat.beq tx 0 && Nat.beq (lenL x) 5) (some (.slice S.next 0 0 1 5 5 none, ⟨S.h.set S.next (.row x 0 0 false 80), Nat.succ S.next⟩)) none
  | _ => none
/-- Is it the place of one entry laid? -/
def oneB (v : AV) : Option Nat := match v with
  | .slice bid g off n lim sz (some c) => cond (Nat.beq g 0 && Nat.beq off 0 && Nat.beq n 1 && Nat.beq lim 5 && Nat.beq sz 5 && Nat.beq c 1) (some bid) none
  | _ => none
theorem oneB_eq {v : AV} {bid : Nat} (h : oneB v = some bid) : v = .slice bid 0 0 1 5 5 (some 1) := by
  unfold oneB at h
  split at h
  · rename_i b g off n lim sz c
    simp only [nbeq] at h
    cases hc : (decide (g = 0) && decide (off = 0) && decide (n = 1) && decide (lim = 5) && decide (sz = 5) && decide (c = 1)) with
    | false => rw [hc] at h; cases h
    | true =>
      rw [hc] at h
      cases h
      simp only [Bool.and_eq_true, decide_eq_true_eq] at hc
      obtain ⟨⟨⟨⟨⟨rfl, rfl⟩, rfl⟩, rfl⟩, rfl⟩, rfl⟩ := hc
      rfl
  · cases h
noncomputable def q31 (vs : List AV) (S : AS) : Option (AV × AS) :=
  match vs with
  | [.nils, .int .i64 (.ofNat i), v] => match oneB v with | some bid => cond (Nat.beq i 0) (insN S bid) none | none => none
  | [.slice id g off n lim 5 none, .int .i64 (.ofNat i), v] => match oneB v with | some bid => insA S id g off n lim i bid | none => none
  | _ => none
theorem insA_eq {S : AS} {id g off n lim i bid : Nat} {r : AV × AS} (h : insA S id g off n lim i bid = some r) : ∃ cells low x, S.h.get id = some (.row cells low g false 80) ∧ S.h.get bid = some (.row x 0 0 false 80) ∧
    off = 0 ∧ lim = n * 5 ∧ cells.length = n * 5 ∧ i ≤ n ∧ 0 < n ∧ fits (n + 1) 48 = true ∧ x.length = 5 ∧ bid ≠ id ∧ flatL (flatF 2) cells = true ∧ flatL (flatF 2) x = true ∧
    r = (.slice id (g + 1) 0 (n + 1) ((n + 1) * 5) 5 none, ⟨S.h.set id (.row (cells.take (i * 5) ++ (x ++ cells.drop (i * 5))) (g + 1) (g + 1) false 80), S.next⟩) := by
  unfold insA at h
  split at h
  · rename_i cells low top ty x lx tx ty' h1 h2
    simp only [nbeq, nble, nblt, lenL_eq, takeN_eq, dropN_eq, appL_eq] at h
    generalize hc : (decide (g = top) && decide (off = 0) && decide (Nat.mul n 5 = lim) && decide (cells.length = lim) && decide (i ≤ n) && decide (0 < n) && fits (Nat.succ n) 48 && decide (ty = 80) && decide (ty' = 80) && decide (lx = 0) && decide (tx = 0) && decide (x.length = 5) && !decide (bid = id) && flatL (flatF 2) cells && flatL (flatF 2) x) = cc at h
    cases cc with
    | false => cases h
    | true =>
      simp only [Bool.and_eq_true, decide_eq_true_eq, Bool.not_eq_true', decide_eq_false_iff_not] at hc
      obtain ⟨⟨⟨⟨⟨⟨⟨⟨⟨⟨⟨⟨⟨⟨rfl, rfl⟩, rfl⟩, c1⟩, c2⟩, c3⟩, c4⟩, rfl⟩, rfl⟩, rfl⟩, rfl⟩, c5⟩, c6⟩, c7⟩, c8⟩ := hc
      rw [cond_true] at h
      cases h
      exact ⟨cells, low, x, h1, h2, rfl, rfl, c1, c2, c3, c4, c5, c6, c7, c8, rfl⟩
  · cases h
theorem insN_eq {S : AS} {bid : Nat} {r : AV × AS} (h : insN S bid = some r) : ∃ x, S.h.get bid = some (.row x 0 0 false 80) ∧ x.length = 5 ∧ r = (.slice S.next 0 0 1 5 5 none, ⟨S.h.set S.next (.row x 0 0 false 80), S.next + 1⟩) := by
  unfold insN at h
  split at h
  · rename_i x lx tx ty' h2
    simp only [nbeq, lenL_eq] at h
    generalize hc : (decide (ty' = 80) && decide (lx = 0) && decide (tx = 0) && decide (x.length = 5)) = cc at h
    cases cc with
    | false => cases h
    | true =>
      simp only [Bool.and_eq_true, decide_eq_true_eq] at hc
      obtain ⟨⟨⟨rfl, rfl⟩, rfl⟩, c5⟩ := hc
      rw [cond_true] at h
      cases h
      exact ⟨x, h2, c5, rfl⟩
  · cases h
theorem flat_all {l : List AV} : flatL (flatF 2) l = true ↔ ∀ x, x ∈ l → flatF 2 x = true := by
  induction l with
  | nil => simp [flatL]
  | cons y l ih => simp [flatL, ih]
theorem prim31 (hr : Ready Tryz.prog A8) : PrimOk Λ Tryz.prog 31 q31 := by
  have hp : ∀ x, x ∈ A8.prims → PrimOk Λ Tryz.prog x.1 x.2 := fun x hx => by cases hx
  have hg : ∀ x, x ∈ A8.globs → GlobOk Λ.w Λ.B x.1 x.2 := fun x hx => by cases hx
  intro ρ vs S w args v S' hR hl hq
  unfold q31 at hq
  split at hq
  · rename_i i v0
    cases hb : oneB v0 with
    | none => rw [hb] at hq; cases hq
    | some bid =>
      rw [hb] at hq
      obtain rfl := oneB_eq hb
      simp only [nbeq] at hq
      cases hi : decide (i = 0) with
      | false => rw [hi] at hq; cases hq
      | true =>
        rw [hi] at hq
        obtain rfl : i = 0 := by simpa using hi
        obtain ⟨x, h1, h2, h3⟩ := insN_eq hq
        cases h3
        obtain ⟨k1, k2⟩ := calls_of hr hp hg hR hl (ins31n h1 h2)
        refine ⟨k1, k2.mono ?_⟩
        rintro e w' ⟨x', v', T, ρ', rfl, r1, ⟨rfl, rfl⟩, r3, r4⟩
        exact ⟨x', ρ', rfl, r1, r3, r4⟩
  · rename_i id g off n lim i v0
    cases hb : oneB v0 with
    | none => rw [hb] at hq; cases hq
    | some bid =>
      rw [hb] at hq
      obtain rfl := oneB_eq hb
      obtain ⟨cells, low, x, h1, h2, rfl, rfl, h3, h4, h5, h6, h7, h8, h9, h10, h11⟩ := insA_eq hq
      cases h11
      obtain ⟨y, ys, hy, hyr, y2, ys2, rfl, hyr2, y3, ys3, rfl, hyr3, rfl⟩ := (show ∃ y ys, args.toList = y :: ys ∧ VRel ρ (.slice id g 0 n (n * 5) 5 none) y ∧ ∃ y2 ys2, ys = y2 :: ys2 ∧ VRel ρ (.int .i64 (i : Int)) y2 ∧ ∃ y3 ys3, ys2 = y3 :: ys3 ∧ VRel ρ (.slice bid 0 0 1 5 5 (some 1)) y3 ∧ ys3 = [] by
        simpa only [LRel, Int.ofNat_eq_natCast] using hl)
      obtain ⟨c, pl, c1, c2, c3, c4, c5⟩ := hR.roomy h1 h3 h5 hyr
      have hid := hR.dom id _ h1
      have hbd := hR.dom bid _ h2
      have hx := c5.ext
      have hl2 : LRel (put ρ id (g + 1) pl) [.slice id (g + 1) 0 n (c * 5) 5 (some c), .int .i64 (i : Int), .slice bid 0 0 1 5 5 (some 1)] args.toList := by
        rw [hy]
        exact LRel.cons c3 (LRel.cons (hyr2.mono hx _ _) (LRel.cons (hyr3.mono hx _ _) LRel.nil))
      have hcl : (cells ++ List.replicate (c * 5 - n * 5) AV.top).length = c * 5 := by
        have : n * 5 ≤ c * 5 := Nat.mul_le_mul_right _ c1
        simp only [List.length_append, List.length_replicate]; omega
      have hc := ins31 (id := id) (top := g + 1) (c := c) (n := n) (i := i) (bid := bid) (x := x) (S := ⟨S.h.set id (.row (cells ++ List.replicate (c * 5 - n * 5) .top) (g + 1) (g + 1) false 80), S.next⟩) (get_set_same _ _ _) hcl c1 h5 h4 h6
        ((get_set_ne _ _ h8).trans h2) h7 h8 hbd hid
      have hins : insL (cells ++ List.replicate (c * 5 - n * 5) .top) x i n = cells.take (i * 5) ++ (x ++ cells.drop (i * 5)) := by
        unfold insL
        rw [List.take_append_of_le_length (show i * 5 ≤ cells.length by omega), List.take_append_of_le_length (show n * 5 ≤ cells.length by omega), List.take_of_length_le (show cells.length ≤ n * 5 by omega), List.append_assoc]
      have hfl : flatL (flatF 2) (cells.take (i * 5) ++ (x ++ cells.drop (i * 5))) = true := by
        rw [flat_all] at h9 h10 ⊢
        intro y hy
        simp only [List.mem_append] at hy
        rcases hy with hy | hy | hy
        · exact h9 y (List.mem_of_mem_take hy)
        · exact h10 y hy
        · exact h9 y (List.mem_of_mem_drop hy)
      have hil : (cells.take (i * 5) ++ (x ++ cells.drop (i * 5))).length = (n + 1) * 5 := by
        simp only [List.length_append, List.length_take, List.length_drop]; omega
      obtain ⟨k1, k2⟩ := calls_of hr hp hg c4 hl2 hc
      refine ⟨k1, k2.mono ?_⟩
      rintro e w' ⟨x', v', T, ρ', rfl, r1, r2, r3, r4⟩
      have hK := c5.trans r4
      have hold : ∀ j, j ≠ id → j < S.next → T.h.get j = S.h.get j := fun j hj hlt => (r2.hold j hj hlt).trans (get_set_ne _ _ hj)
      rcases r2.lies with ⟨rfl, a1, cT, a2, a3, a4⟩ | ⟨jd, a1, rfl, a2, a3⟩
      · simp only [VRel] at r1
        obtain ⟨plT, c', p1, p2, p3, p4, p5, p6⟩ := r1
        rw [hins] at a4
        obtain ⟨hle, q1, q2⟩ := R.land hR r3 hK (jd := id) (m := (n + 1) * 5) (cells' := cells.take (i * 5) ++ (x ++ cells.drop (i * 5))) h1 ⟨_, _, a2⟩ hold (.inl rfl) a2 p1 (by have : (n + 1) * 5 ≤ c * 5 := Nat.mul_le_mul_right _ a1; omega) a4.symm hfl
        refine ⟨x', _, rfl, ?_, q1, q2⟩
        rcases p6 with ⟨e1, e2, e3⟩ | ⟨e1, _⟩
        · refine VRel.slice_mk ⟨plT.b, plT.base, (n + 1) * 5, plT.N, hle⟩ c' (by simp) (Nat.le_refl _) (by omega) p4 p5 (.inl ⟨e1, e2, fun k hk => by cases hk⟩)
        · omega
      · simp only [VRel] at r1
        obtain ⟨plT, c', p1, p2, p3, p4, p5, p6⟩ := r1
        rw [hins] at a2
        obtain ⟨hle, q1, q2⟩ := R.land hR r3 hK (jd := jd) (m := (n + 1) * 5) (cells' := cells.take (i * 5) ++ (x ++ cells.drop (i * 5))) h1 ⟨_, _, a3.trans (get_set_same _ _ _)⟩ hold (.inr a1) a2 p1 (Nat.le_of_eq hil.symm) (List.take_of_length_le (Nat.le_of_eq hil)).symm hfl
        refine ⟨x', _, rfl, ?_, q1, q2⟩
        rcases p6 with ⟨e1, e2, e3⟩ | ⟨e1, _⟩
        · refine VRel.slice_mk ⟨plT.b, plT.base, (n + 1) * 5, plT.N, hle⟩ c' (by simp) (Nat.le_refl _) (by omega) p4 p5 (.inl ⟨e1, e2, fun k hk => by cases hk⟩)
        · omega
  · cases hq
end Go.Proofs.YtfempihpphbgmaaGreat.ins
