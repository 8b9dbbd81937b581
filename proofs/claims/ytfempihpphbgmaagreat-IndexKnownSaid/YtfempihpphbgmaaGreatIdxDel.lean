/-
  slices.Delete at entries, one of them, as a function that need not be entered.
-/
import Derived.Test.YtfempihpphbgmaaGreatIdxInsb
namespace Go.Proofs.YtfempihpphbgmaaGreat.ins
open Go Go.Am
set_option linter.unusedVariables false
set_option linter.unusedSimpArgs false
variable {Λ : LB}

theorem fn34 : C8.fns.get 34 = some Tryz.f34 := by kernel_rfl
theorem ok34 : codeOk C8 Tryz.f34.ntmps (Tryz.f34.body.getD .skip) = true := by kernel_rfl
theorem nt34 : Tryz.f34.ntmps = 33 := by kernel_rfl
section
variable {S : AS} {F : Fr} {id g off len lim c : Nat}
theorem sliceV_max {lo hi mx : Option Operand} {l k m : Nat} (hs : isS hi = true) (hl : bound F lo 0 = some l) (hh : bound F hi len = some k) (hm : bound F mx c = some m) (h1 : l ≤ k) (h2 : k ≤ m) (h3 : m ≤ c) :
    sliceV C8 F 78 (.slice id g off len lim 5 (some c)) lo hi mx = some (cutV id g off lim 5 l k m) := by
  have hb : bounds F len (roomOf len (some c)) lo hi mx = some (l, k, m) := by
    unfold bounds
    rw [hl, hh]
    have e : bound F mx (roomOf len (some c)) = some m := hm
    rw [e]
    simp [nble, h1, h2, h3, roomOf, hs]
  unfold sliceV
  simp only [un78, sz80, hb, nbeq, decide_true, cond_true, Bool.or_true, isS]
theorem append_none {bs : Nat} {x : AV} {cap : Option Nat} (ht : taken S 5 x = some (0, [])) : appendV S 80 5 bs (.slice id g off len lim 5 cap) x = some (.slice id g off len lim 5 cap, S) := by
  unfold appendV
  simp only [ht, nbeq, decide_true, cond_true]
theorem taken_zero {cap : Option Nat} : taken S 5 (.slice id g off 0 lim 5 cap) = some (0, []) := by
  show cond (Nat.beq 5 5) (some (0, ([] : List AV))) none = _
  rw [nbeq]; simp
theorem clear_one {cells : List AV} {top : Nat} {cap : Option Nat} {ts : List TypeId} (h : S.h.get id = some (.row cells top top false 80)) (hl : off + 5 ≤ lim) (ho : off ≤ cells.length) :
    builtinV C8 S .clear (78 :: ts) [.slice id top off 1 lim 5 cap] = .val .undef ⟨S.h.set id (.row (cells.take off ++ zeroE ++ cells.drop (off + 5)) top top false 80), S.next⟩ := by
  show vals? (clearV C8 S 78 (.slice id top off 1 lim 5 cap)) 17 = _
  unfold clearV
  simp only [un78, sz80, ze80, cellsOf_agg]
  have h1 : (Nat.beq 5 5 && Nat.beq (lenL zeroE) 5) = true := by rw [lenL_eq]; rfl
  rw [h1]
  simp only [cond_true]
  have h2 : repL 1 zeroE = zeroE := by show appL zeroE [] = _; rw [appL_eq, List.append_nil]
  rw [h2, wr_at, h, wrO_row]
  have h3 : zeroE.length = 5 := rfl
  rw [if_pos ⟨rfl, by rw [h3]; exact hl, rfl⟩, splice_lit ho, h3]
  rfl
end
/-- The cells without an entry. -/
def delL (cells : List AV) (i n : Nat) : List AV := cells.take (i * 5) ++ (cells.take (n * 5)).drop ((i + 1) * 5)
structure DelAt (S T : AS) (id top c n i : Nat) (cells : List AV) (v : AV) : Prop where
  lies : v = .slice id top 0 (n - 1) (c * 5) 5 (some c)
  row : ∃ cT, T.h.get id = some (.row cT top top false 80) ∧ cT.length = c * 5 ∧ cT.take ((n - 1) * 5) = delL cells i n
  hold : ∀ j, j ≠ id → T.h.get j = S.h.get j
  next : T.next = S.next
theorem del34 {S : AS} {id top c n i : Nat} {cells : List AV} (hrow : S.h.get id = some (.row cells top top false 80)) (hcl : cells.length = c * 5) (hn : n ≤ c) (hi : i < n) (hf : fits n 48 = true) :
    CallW C8 34 [.slice id top 0 n (c * 5) 5 (some c), .int .i64 (i : Int), .int .i64 ((i + 1 : Nat) : Int)] S fun v T => DelAt S T id top c n i cells v := by
  have hf' : n ≤ 4611686018427387904 := by
    unfold fits at hf
    simp only [nble, Bool.and_eq_true, decide_eq_true_eq] at hf
    exact hf.1
  refine enterW (pu8 _) (pr8 _) fn34 rfl ok34 (by simp) fun F hn' hs => ?_
  rw [nt34] at hn'
  have s0 := hs 0
  have s1 := hs 1
  have s2 := hs 2
  clear hs
  simp only [List.getElem?_cons_zero, List.getElem?_cons_succ, Option.getD_some] at s0 s1 s2
  have hne : ((i : Int) = ((i + 1 : Nat) : Int)) = False := by simp; omega
  have hli : (cells.take (i * 5)).length = i * 5 := by rw [List.length_take]; omega
  have e13 : ∀ G : Fr, sl G 9 = .int .i64 (i : Int) → sl G 10 = .int .i64 ((i + 1 : Nat) : Int) → sl G 12 = .int .i64 (n : Int) → sliceV C8 G 78 (.slice id top 0 n (c * 5) 5 (some c)) (some (.tmp 9)) (some (.tmp 10)) (some (.tmp 12)) = some (cutV id top 0 (c * 5) 5 i (i + 1) n) := fun G h1 h2 h3 =>
    sliceV_max rfl (by rw [bound_some, eval_tmp, h1, natOf_nat]) (by rw [bound_some, eval_tmp, h2, natOf_nat]) (by rw [bound_some, eval_tmp, h3, natOf_nat]) (by omega) (by omega) hn
  have e22 : ∀ G : Fr, sl G 21 = .int .i64 (i : Int) → sliceV C8 G 78 (.slice id top 0 n (c * 5) 5 (some c)) none (some (.tmp 21)) none = some (.slice id top 0 i (c * 5) 5 (some c)) := fun G h1 => by
    rw [sliceV_cap (l := 0) (k := i) bound_none (by rw [bound_some, eval_tmp, h1, natOf_nat]) (by omega) (by omega)]
    unfold cutV
    rw [nbeq, decide_eq_false (by omega)]
    simp [forceN_eq]
  have e25 : ∀ G : Fr, sl G 24 = .int .i64 ((i + 1 : Nat) : Int) → sliceV C8 G 78 (.slice id top 0 n (c * 5) 5 (some c)) (some (.tmp 24)) none none = some (cutV id top 0 (c * 5) 5 (i + 1) n c) := fun G h1 =>
    sliceV_cap (by rw [bound_some, eval_tmp, h1, natOf_nat]) bound_none (by omega) hn
  have e31 : ∀ G : Fr, sl G 29 = .int .i64 ((n - 1 : Nat) : Int) → sl G 30 = .int .i64 (n : Int) → sliceV C8 G 78 (.slice id top 0 (n - 1) (c * 5) 5 (some c)) (some (.tmp 29)) (some (.tmp 30)) none = some (.slice id top ((n - 1) * 5) 1 (c * 5) 5 (some (c - (n - 1)))) := fun G h1 h2 => by
    rw [sliceV_cap (l := n - 1) (k := n) (by rw [bound_some, eval_tmp, h1, natOf_nat]) (by rw [bound_some, eval_tmp, h2, natOf_nat]) (by omega) (by omega), cutV_lt (by omega)]
    simp; omega
  obtain ⟨c1, hc1, hap, hl1⟩ : ∃ c1, c1.length = c * 5 ∧ (appendV S 80 5 48 (.slice id top 0 i (c * 5) 5 (some c)) (cutV id top 0 (c * 5) 5 (i + 1) n c) = some (.slice id top 0 (n - 1) (c * 5) 5 (some c), ⟨S.h.set id (.row c1 top top false 80), S.next⟩) ∨
      (n = i + 1 ∧ c1 = cells ∧ appendV S 80 5 48 (.slice id top 0 i (c * 5) 5 (some c)) (cutV id top 0 (c * 5) 5 (i + 1) n c) = some (.slice id top 0 (n - 1) (c * 5) 5 (some c), S))) ∧ c1.take ((n - 1) * 5) = delL cells i n := by
    by_cases hin : i + 1 = n
    · refine ⟨cells, hcl, .inr ⟨hin.symm, rfl, ?_⟩, ?_⟩
      · have tz : taken S 5 (cutV id top 0 (c * 5) 5 (i + 1) n c) = some (0, []) := by
          unfold cutV
          cases Nat.beq c (i + 1) <;> simp only [cond_true, cond_false, forceN_eq]
          · rw [show Nat.sub n (i + 1) = 0 from by show n - (i + 1) = 0; omega]; exact taken_zero
          · exact taken_zero
        rw [append_none tz, show n - 1 = i by omega]
      · unfold delL
        rw [show n - 1 = i by omega, hin, List.drop_eq_nil_of_le (by rw [List.length_take]; omega), List.append_nil]
    · have hlt : i + 1 < c := by omega
      obtain ⟨m, hm⟩ : ∃ m, n - (i + 1) = m + 1 := ⟨n - (i + 1) - 1, by omega⟩
      have ht : taken S 5 (cutV id top 0 (c * 5) 5 (i + 1) n c) = some (m + 1, (cells.drop ((i + 1) * 5)).take ((m + 1) * 5)) := by
        rw [cutV_lt hlt, hm, taken_at hrow (Nat.le_refl _) (Nat.le_refl _) (by omega)]
        simp
      have hlen : ((cells.drop ((i + 1) * 5)).take ((m + 1) * 5)).length = (m + 1) * 5 := by rw [List.length_take, List.length_drop]; omega
      have hf1 : fits (i + (m + 1)) 48 = true := by
        unfold fits at hf ⊢
        simp only [nble, Bool.and_eq_true, decide_eq_true_eq] at hf ⊢
        refine ⟨by omega, Nat.le_trans (Nat.mul_le_mul_right 48 (show i + (m + 1) ≤ n by omega)) hf.2⟩
      have ha := append_room (off := 0) (len := i) (c := c) (lim := c * 5) (bs := 48) ht hrow (by omega) hf1 (by rw [hlen]; omega) (by omega)
      refine ⟨cells.take (0 + i * 5) ++ (cells.drop ((i + 1) * 5)).take ((m + 1) * 5) ++ cells.drop (0 + i * 5 + ((cells.drop ((i + 1) * 5)).take ((m + 1) * 5)).length), ?_, .inl ?_, ?_⟩
      · rw [List.length_append, List.length_append, hlen, List.length_drop, List.length_take]; omega
      · rw [ha, show i + (m + 1) = n - 1 by omega]
      · unfold delL
        rw [Nat.zero_add, List.take_append_of_le_length (by rw [List.length_append, hlen, hli]; omega), List.take_of_length_le (by rw [List.length_append, hlen, hli]; omega), List.drop_take, show n * 5 - (i + 1) * 5 = (m + 1) * 5 by omega]
  obtain ⟨S1, hS1⟩ : ∃ S1 : AS, S1 = ⟨S.h.set id (.row c1 top top false 80), S.next⟩ := ⟨_, rfl⟩
  obtain ⟨S2, hap, r1, o1, n1⟩ : ∃ S2 : AS, appendV S 80 5 48 (.slice id top 0 i (c * 5) 5 (some c)) (cutV id top 0 (c * 5) 5 (i + 1) n c) = some (.slice id top 0 (n - 1) (c * 5) 5 (some c), S2) ∧ S2.h.get id = some (.row c1 top top false 80) ∧ (∀ j, j ≠ id → S2.h.get j = S.h.get j) ∧ S2.next = S.next := by
    rcases hap with h | ⟨_, rfl, h⟩
    · exact ⟨_, h, get_set_same _ _ _, fun j hj => get_set_ne _ _ hj, rfl⟩
    · exact ⟨S, h, hrow, fun _ _ => rfl, rfl⟩
  have hclr := fun ts => clear_one (S := S2) (off := (n - 1) * 5) (lim := c * 5) (cap := some (c - (n - 1))) (ts := ts) r1 (by omega) (by omega)
  simp [s0, s1, s2, e13, hne, len_slice un78, okW_cutV, okV_cutV, -Int.natCast_add, hn']
  refine draws [.p, .p, .p, .p, .p, .p, .e [], .p] (n := 33) (by kernel_rfl) (by simp [hn']) ?_
  simp [s0, s1, s2, e22, e25, e31, hne, len_slice un78, okW_cutV, okV_cutV, -Int.natCast_add, hn', append_at, hap, hclr]
  refine ⟨rfl, ⟨_, get_set_same _ _ _, ?_, ?_⟩, fun j hj => (get_set_ne _ _ hj).trans (o1 j hj), n1⟩
  · simp only [List.length_append, List.length_take, List.length_drop]
    have : zeroE.length = 5 := rfl
    omega
  · rw [List.take_append_of_le_length (by rw [List.length_take]; omega), List.take_take, Nat.min_self]
    exact hl1

/-- The answer: a new generation of the row without the entry. -/
noncomputable def delA (S : AS) (id g off n lim i j : Nat) : Option (AV × AS) :=
  match S.h.get id with
  | some (.row cells _ top false ty) =>
    cond (Nat.beq g top && Nat.beq off 0 && Nat.beq (Nat.mul n 5) lim && Nat.beq (lenL cells) lim && Nat.blt i n && Nat.beq j (Nat.succ i) && Nat.beq ty 80 && fits n 48 && flatL (flatF 2) cells)
      (some (.slice id (Nat.succ top) 0 (Nat.pred n) (Nat.mul (Nat.pred n) 5) 5 none, ⟨S.h.set id (.row (appL (takeN (Nat.mul i 5) cells) (dropN (Nat.mul (Nat.succ i) 5) cells)) (Nat.succ top) (Nat.succ top) false 80), S.next⟩)) none
  | _ => none
noncomputable def q34 (vs : List AV) (S : AS) : Option (AV × AS) :=
  match vs with
  | [.slice id g off n lim 5 none, .int .i64 (.ofNat i), .int .i64 (.ofNat j)] => delA S id g off n lim i j
  | _ => none
theorem delA_eq {S : AS} {id g off n lim i j : Nat} {r : AV × AS} (h : delA S id g off n lim i j = some r) : ∃ cells low, S.h.get id = some (.row cells low g false 80) ∧
    off = 0 ∧ lim = n * 5 ∧ cells.length = n * 5 ∧ i < n ∧ j = i + 1 ∧ fits n 48 = true ∧ flatL (flatF 2) cells = true ∧
    r = (.slice id (g + 1) 0 (n - 1) ((n - 1) * 5) 5 none, ⟨S.h.set id (.row (cells.take (i * 5) ++ cells.drop ((i + 1) * 5)) (g + 1) (g + 1) false 80), S.next⟩) := by
  unfold delA at h
  split at h
  · rename_i cells low top ty h1
    simp only [nbeq, nblt, lenL_eq, takeN_eq, dropN_eq, appL_eq] at h
    generalize hc : (decide (g = top) && decide (off = 0) && decide (Nat.mul n 5 = lim) && decide (cells.length = lim) && decide (i < n) && decide (j = Nat.succ i) && decide (ty = 80) && fits n 48 && flatL (flatF 2) cells) = cc at h
    cases cc with
    | false => cases h
    | true =>
      simp only [Bool.and_eq_true, decide_eq_true_eq] at hc
      obtain ⟨⟨⟨⟨⟨⟨⟨⟨rfl, rfl⟩, rfl⟩, c1⟩, c2⟩, rfl⟩, rfl⟩, c3⟩, c4⟩ := hc
      rw [cond_true] at h
      cases h
      exact ⟨cells, low, h1, rfl, rfl, c1, c2, rfl, c3, c4, rfl⟩
  · cases h
theorem prim34 (hr : Ready Tryz.prog A8) : PrimOk Λ Tryz.prog 34 q34 := by
  have hp : ∀ x, x ∈ A8.prims → PrimOk Λ Tryz.prog x.1 x.2 := fun x hx => by cases hx
  have hg : ∀ x, x ∈ A8.globs → GlobOk Λ.w Λ.B x.1 x.2 := fun x hx => by cases hx
  intro ρ vs S w args v S' hR hl hq
  unfold q34 at hq
  split at hq
  · rename_i id g off n lim i j
    obtain ⟨cells, low, h1, rfl, rfl, h3, h4, rfl, h6, h9, h11⟩ := delA_eq hq
    cases h11
    obtain ⟨y, ys, hy, hyr, y2, ys2, rfl, hyr2, y3, ys3, rfl, hyr3, rfl⟩ := (show ∃ y ys, args.toList = y :: ys ∧ VRel ρ (.slice id g 0 n (n * 5) 5 none) y ∧ ∃ y2 ys2, ys = y2 :: ys2 ∧ VRel ρ (.int .i64 (i : Int)) y2 ∧ ∃ y3 ys3, ys2 = y3 :: ys3 ∧ VRel ρ (.int .i64 ((i + 1 : Nat) : Int)) y3 ∧ ys3 = [] by
      simpa only [LRel, Int.ofNat_eq_natCast] using hl)
    obtain ⟨c, pl, c1, c2, c3, c4, c5⟩ := hR.roomy h1 h3 (by omega) hyr
    have hid := hR.dom id _ h1
    have hx := c5.ext
    have hl2 : LRel (put ρ id (g + 1) pl) [.slice id (g + 1) 0 n (c * 5) 5 (some c), .int .i64 (i : Int), .int .i64 ((i + 1 : Nat) : Int)] args.toList := by
      rw [hy]
      exact LRel.cons c3 (LRel.cons (hyr2.mono hx _ _) (LRel.cons (hyr3.mono hx _ _) LRel.nil))
    have hcl : (cells ++ List.replicate (c * 5 - n * 5) AV.top).length = c * 5 := by
      have : n * 5 ≤ c * 5 := Nat.mul_le_mul_right _ c1
      simp only [List.length_append, List.length_replicate]; omega
    have hc := del34 (id := id) (top := g + 1) (c := c) (n := n) (i := i) (S := ⟨S.h.set id (.row (cells ++ List.replicate (c * 5 - n * 5) .top) (g + 1) (g + 1) false 80), S.next⟩) (get_set_same _ _ _) hcl c1 h4 h6
    have hdel : delL (cells ++ List.replicate (c * 5 - n * 5) .top) i n = cells.take (i * 5) ++ cells.drop ((i + 1) * 5) := by
      unfold delL
      rw [List.take_append_of_le_length (show i * 5 ≤ cells.length by omega), List.take_append_of_le_length (show n * 5 ≤ cells.length by omega), List.take_of_length_le (show cells.length ≤ n * 5 by omega)]
    have hfl : flatL (flatF 2) (cells.take (i * 5) ++ cells.drop ((i + 1) * 5)) = true := by
      rw [flat_all] at h9 ⊢
      intro y hy
      simp only [List.mem_append] at hy
      rcases hy with hy | hy
      · exact h9 y (List.mem_of_mem_take hy)
      · exact h9 y (List.mem_of_mem_drop hy)
    have hil : (cells.take (i * 5) ++ cells.drop ((i + 1) * 5)).length = (n - 1) * 5 := by
      simp only [List.length_append, List.length_take, List.length_drop]; omega
    obtain ⟨k1, k2⟩ := calls_of hr hp hg c4 hl2 hc
    refine ⟨k1, k2.mono ?_⟩
    rintro e w' ⟨x', v', T, ρ', rfl, r1, r2, r3, r4⟩
    have hK := c5.trans r4
    have hold : ∀ j, j ≠ id → j < S.next → T.h.get j = S.h.get j := fun j hj hlt => (r2.hold j hj).trans (get_set_ne _ _ hj)
    obtain ⟨cT, a2, a3, a4⟩ := r2.row
    rw [r2.lies] at r1
    simp only [VRel] at r1
    obtain ⟨plT, c', p1, p2, p3, p4, p5, p6⟩ := r1
    rw [hdel] at a4
    have hle5 : (n - 1) * 5 ≤ c * 5 := Nat.mul_le_mul_right _ (by omega)
    obtain ⟨hle, q1, q2⟩ := R.land hR r3 hK (jd := id) (m := (n - 1) * 5) (cells' := cells.take (i * 5) ++ cells.drop ((i + 1) * 5)) h1 ⟨_, _, a2⟩ hold (.inl rfl) a2 p1 (by omega) a4.symm hfl
    refine ⟨x', _, rfl, ?_, q1, q2⟩
    rcases p6 with ⟨e1, e2, e3⟩ | ⟨e1, e2, e3, _⟩
    · refine VRel.slice_mk ⟨plT.b, plT.base, (n - 1) * 5, plT.N, hle⟩ c' (by simp) (Nat.le_refl _) (by omega) p4 p5 (.inl ⟨e1, e2, fun k hk => by cases hk⟩)
    · have := e3 c rfl
      omega
  · cases hq
end Go.Proofs.YtfempihpphbgmaaGreat.ins
