/-
  Doubts; a book's Crash.
  ModelAll: what fits, in plain terms.
  ModelOnce: what the law remembers, in plain terms; what lies apart.
  ModelOnce: the law's beginning.
-/
import Derived.Test.YtedonhemfhfbaaaGreatPartI
import Derived.Test.YtedonhemfhfbaaaGreatAmCut
namespace Go.Proofs.YtedonhemfhfbaaaGreat.mod
open Go Go.Am
set_option linter.unusedVariables false
set_option linter.unusedSimpArgs false

section
variable {S T : AS} {h : Nat} {v : AV} {L : List Kept} {dur : Nat}
theorem doubts24 (hh : HistAt S h v L dur) : CallW C0 24 [.ptr h 0 0 3] S fun r T => r = .tuple [] ∧ HistAt T h v (doubtL L L.length) dur ∧ Keep (fun id => bnd v = id + 1) S T := by
  obtain ⟨r, T, ⟨rfl, h1, h2, h3⟩, e1⟩ := (doubts89 hh (n := L.length) (Nat.le_refl _)).ex
  have u1 := hh.gw.1.sl
  have u2 := hh.len
  refine enterW (pu0 _) (pr0 _ rfl) fn24 rfl ok24 (by simp) fun F hn hs => ?_
  have s0 := hs 0
  clear hs
  simp only [List.getElem?_cons_zero, Option.getD_some] at s0
  simp [s0, none63 hh, hh.at_, u1, u2, e1, ex0]
  exact ⟨h1, h2⟩
theorem doubtL_turned (L : List Kept) (n : Nat) : Turned true L (doubtL L n) := by
  refine ⟨doubtL_len _ _, fun i k hk => ?_⟩
  rw [doubtL_get, hk]
  by_cases hc : i < n ∧ k.state = 0
  · exact ⟨2, by simp [hc], .inr (.inr ⟨rfl, hc.2, rfl⟩)⟩
  · exact ⟨k.state, by simp only [Option.map_some, if_neg hc], .inl rfl⟩
end

def crashS (x : SubS) : SubS := { x with next := [], told := [] }
def crashX (X : SubX) (m : Nat) : SubX := { X with nm := .map m, tv := .nils, x := crashS X.x }
section
variable {S T : AS} {b : Nat} {st : Nat → Option SubX}
theorem Step.trans {R S T : AS} {b : Nat} {st st1 st2 : Nat → Option SubX} (h1 : Step R S b st st1) (h2 : Step S T b st1 st2) : Step R T b st st2 :=
  ⟨h2.book, ⟨fun id i1 i2 => (h2.keep.h id (Nat.lt_of_lt_of_le i1 h1.keep.next) (fun hf => by
    rcases h1.foot id hf with h | h
    · exact i2 h
    · omega)).trans (h1.keep.h id i1 i2), Nat.le_trans h1.keep.next h2.keep.next⟩, fun id hf => by
    rcases h2.foot id hf with h | h
    · exact h1.foot id h
    · exact .inr (Nat.le_trans h1.keep.next h)⟩
/-- A subscription's crash, in memory. -/
theorem crash_sub {X : SubX} (hX : SubM S X) (o1 : AObj) : SubM ⟨((S.h.set S.next (.map [] 0)).set X.s o1).set X.s (.row [X.p, .nils, X.cm, .map S.next, .nils] 0 0 false 136), S.next + 1⟩ (crashX X S.next) ∧
    Keep X.own S ⟨((S.h.set S.next (.map [] 0)).set X.s o1).set X.s (.row [X.p, .nils, X.cm, .map S.next, .nils] 0 0 false 136), S.next + 1⟩ ∧ ∀ id, (crashX X S.next).foot id → X.foot id ∨ S.next ≤ id := by
  have b1 := hX.lt
  have b2 := Mp.lt hX.cur
  have b3 := Mp.lt hX.next
  have b4 := hX.told.1.old
  have a1 := hX.a1
  have g : ∀ id, id < S.next → id ≠ X.s → (((S.h.set S.next (.map [] 0)).set X.s o1).set X.s (.row [X.p, .nils, X.cm, .map S.next, .nils] 0 0 false 136)).get id = S.h.get id := fun id h1 h2 => by
    simp only [get_set_ne _ _ h2, get_set_ne _ _ (show id ≠ S.next by omega)]
  refine ⟨⟨by show X.s < S.next + 1; omega, get_set_same _ _ _, ?_, hX.bare, ?_, Mp.fresh (clock := 0) ?_ (Nat.lt_succ_self _), Gw.nil, a1, ?_, ?_, ?_, ?_, ?_, ?_, fun t ht => (by cases ht), hX.n2, fun t ht => (by cases ht), by simp [crashX, crashS], rfl⟩, ⟨fun id h1 h2 => ?_, Nat.le_succ _⟩, ?_⟩
  · exact hX.pred.agree (fun id hf => g id (hX.pred.foot hf) (fun e => hX.pf id hf (.inl (by omega)))) (Nat.le_succ _)
  · exact Mp.agree hX.cur (fun id e => g id (by have e : bnd X.cm = id + 1 := e; omega) (fun e2 => by have e : bnd X.cm = id + 1 := e; omega)) (Nat.le_succ _)
  · simp only [get_set_ne _ _ (show S.next ≠ X.s by omega), get_set_same]
  · simp only [crashX, bnd]; omega
  · simp only [crashX, bnd]; omega
  · show bnd X.cm ≠ S.next + 1; omega
  · show bnd X.cm ≠ 0; omega
  · show S.next + 1 ≠ 0; omega
  · intro id hf ho
    have hp := hX.pf id hf
    have hl := hX.pred.foot hf
    rcases ho with e | e | e | e
    · exact hp (.inl e)
    · exact hp (.inr (.inl e))
    · simp only [crashX, bnd] at e; omega
    · simp only [crashX, bnd] at e; omega
  · exact g id h1 (fun e => h2 (.inl (by omega)))
  · rintro id ((e | e | e | e) | e)
    · exact .inl (.inl (.inl e))
    · exact .inl (.inl (.inr (.inl e)))
    · simp only [crashX, bnd] at e; right; omega
    · simp only [crashX, bnd] at e; omega
    · exact .inl (.inr e)
def ar8 (st : Nat → Option SubX) : AV := .agg [pX (st 0), pX (st 1), pX (st 2), pX (st 3), pX (st 4), pX (st 5), pX (st 6), pX (st 7)]
theorem part8 (w0 w1 w2 w3 w4 w5 w6 w7 : AV) : partOf C0 121 [w0, w1, w2, w3, w4, w5, w6, w7] (Nat.mul 0 1) = some w0 ∧ partOf C0 121 [w0, w1, w2, w3, w4, w5, w6, w7] (Nat.mul 1 1) = some w1 ∧ partOf C0 121 [w0, w1, w2, w3, w4, w5, w6, w7] (Nat.mul 2 1) = some w2 ∧ partOf C0 121 [w0, w1, w2, w3, w4, w5, w6, w7] (Nat.mul 3 1) = some w3 ∧
    partOf C0 121 [w0, w1, w2, w3, w4, w5, w6, w7] (Nat.mul 4 1) = some w4 ∧ partOf C0 121 [w0, w1, w2, w3, w4, w5, w6, w7] (Nat.mul 5 1) = some w5 ∧ partOf C0 121 [w0, w1, w2, w3, w4, w5, w6, w7] (Nat.mul 6 1) = some w6 ∧ partOf C0 121 [w0, w1, w2, w3, w4, w5, w6, w7] (Nat.mul 7 1) = some w7 :=
  ⟨by kernel_rfl, by kernel_rfl, by kernel_rfl, by kernel_rfl, by kernel_rfl, by kernel_rfl, by kernel_rfl, by kernel_rfl⟩
theorem aop_index8 {F : Fr} {S : AS} {dst : Option Tmp} {ty : TypeId} {pos : String} {af : Array Edge} {gd : Option (Nat × Bool)} {x ix : Tmp} {st : Nat → Option SubX} {k : IntKind} {i : Nat} (hx : sl F x = ar8 st) (hi : sl F ix = .int k i) (hn : i < 8) :
    aop C0 F S ⟨dst, .index 122 (.tmp x) (.tmp ix), ty, pos, af, gd⟩ = .val (pX (st i)) S := by
  obtain ⟨p0, p1, p2, p3, p4, p5, p6, p7⟩ := part8 (pX (st 0)) (pX (st 1)) (pX (st 2)) (pX (st 3)) (pX (st 4)) (pX (st 5)) (pX (st 6)) (pX (st 7))
  simp only [aop, un122, eval_tmp, hx, hi, natOf_nat, ar8, sz121]
  rcases lt8 hn with rfl | rfl | rfl | rfl | rfl | rfl | rfl | rfl
  · rw [p0]; rfl
  · rw [p1]; rfl
  · rw [p2]; rfl
  · rw [p3]; rfl
  · rw [p4]; rfl
  · rw [p5]; rfl
  · rw [p6]; rfl
  · rw [p7]; rfl
def crH (S : AS) (b : Nat) (st : Nat → Option SubX) (k : Nat) (F' : Fr) (S' : AS) : Prop :=
  ∃ (i : Nat) (st' : Nat → Option SubX), Step S S' b st st' ∧ (∀ j, j < i → (st j = none ∧ st' j = none) ∨ ∃ X m, st j = some X ∧ st' j = some (crashX X m)) ∧ (∀ j, i ≤ j → st' j = st j) ∧ sl F' 0 = .ptr b 0 0 17 ∧ sl F' 9 = ar8 st ∧ sl F' 10 = .int .i64 i ∧ i ≤ 8 ∧ k = 8 - i
theorem crH_mk {S : AS} {b : Nat} {st : Nat → Option SubX} {k : Nat} {F' : Fr} {S' : AS} (i : Nat) (st' : Nat → Option SubX) (h1 : Step S S' b st st') (h2 : ∀ j, j < i → (st j = none ∧ st' j = none) ∨ ∃ X m, st j = some X ∧ st' j = some (crashX X m)) (h3 : ∀ j, i ≤ j → st' j = st j) (h4 : sl F' 0 = .ptr b 0 0 17)
    (h5 : sl F' 9 = ar8 st) (h6 : sl F' 10 = .int .i64 i) (h7 : i ≤ 8) (h8 : k = 8 - i) : crH S b st k F' S' := ⟨i, st', h1, h2, h3, h4, h5, h6, h7, h8⟩
theorem nt25 : Tryz.f25.ntmps = 30 := by kernel_rfl
set_option maxRecDepth 20000 in
theorem crash25 (hb : BookAt S b st) : CallW C0 25 [.ptr b 0 0 17] S fun r T => r = .tuple [] ∧ ∃ st', Step S T b st st' ∧ ∀ j, j < 8 → abst st' j = (abst st j).map crashS := by
  refine enterW (pu0 _) (pr0 _ rfl) fn25 rfl ok25 (by simp) fun F hn hs => ?_
  rw [nt25] at hn
  have s0 := hs 0
  clear hs
  simp only [List.getElem?_cons_zero, Option.getD_some] at s0
  simp [s0, bnone hb, hb.at_, ex0]
  refine loopP_of (crH S b st) 8 (crH_mk 0 st (.same hb (.refl _)) (fun j hj => by omega) (fun j _ => rfl) (by simp [s0]) (by simp [ar8]) (by simp) (Nat.zero_le _) rfl) ?_
  rintro k F' S' hn' ⟨i, st', h1, h2, h3, t0, t9, t10, hi, hk⟩
  have hn2 : F'.n = 30 := by rw [hn']; simp [hn]
  clear hn' s0 hn
  by_cases hi8 : i < 8
  · have hst := h3 i (Nat.le_refl _)
    have e1 := fun (F : Fr) (S : AS) (dst : Option Tmp) (ty : TypeId) (pos : String) (af : Array Edge) (gd : Option (Nat × Bool)) (a : sl F 9 = ar8 st) (c : sl F 10 = .int .i64 i) => aop_index8 (F := F) (S := S) (dst := dst) (ty := ty) (pos := pos) (af := af) (gd := gd) a c hi8
    have hw := wrap_succ (i := i) (by omega)
    have hpo := okW_pX (o := st i)
    have hpn := np_pX (o := st i)
    have q1 : (i : Int) < 8 := by omega
    cases hX : st i with
    | none =>
      rw [hX] at e1
      simp [t0, t9, t10, q1, e1, pX_none]
      refine ⟨8 - (i + 1), by omega, crH_mk (i + 1) st' h1 (fun j hj => ?_) (fun j hj => h3 j (by omega)) (by simp [t0]) (by simp [t9]) (by simp [hw]) hi8 rfl⟩
      by_cases hj2 : j = i
      · subst hj2; exact .inl ⟨hX, by rw [hst]; exact hX⟩
      · exact h2 j (by omega)
    | some X =>
      rw [hX] at e1
      have hX' : st' i = some X := by rw [hst]; exact hX
      have hM := h1.book.sub i X hX'
      have hlt := hM.lt
      have hat := hM.at_
      simp [t0, t9, t10, q1, e1, pX_some, hat, ne_lt hlt]
      obtain ⟨c1, c2, c3⟩ := crash_sub hM (.row [X.p, .nils, X.cm, .map S'.next, X.tv] 0 0 false 136)
      have hstep := h1.book.turn (X' := crashX X S'.next) hX' rfl c1 c2 c3
      refine ⟨8 - (i + 1), by omega, crH_mk (i + 1) _ (h1.trans hstep) (fun j hj => ?_) (fun j hj => ?_) (by simp [t0]) (by simp [t9]) (by simp [hw]) hi8 rfl⟩
      · by_cases hj2 : j = i
        · subst hj2; exact .inr ⟨X, _, hX, by unfold updS; rw [if_pos rfl]⟩
        · have : updS st' i (some (crashX X S'.next)) j = st' j := by unfold updS; rw [if_neg hj2]
          rw [this]
          exact h2 j (by omega)
      · have : updS st' i (some (crashX X S'.next)) j = st' j := by unfold updS; rw [if_neg (by omega)]
        rw [this]
        exact h3 j (by omega)
  · obtain rfl : i = 8 := by omega
    have hat := h1.book.at_
    simp [t0, t9, t10, hat]
    have hset : (⟨S'.h.set b (.row [.bool true, pX (st' 0), pX (st' 1), pX (st' 2), pX (st' 3), pX (st' 4), pX (st' 5), pX (st' 6), pX (st' 7), .nilp, .nilp, .nilp, .nilp, .nilp, .nilp, .nilp, .nilp] 0 0 false 126), S'.next⟩ : AS).h.get b = S'.h.get b := by rw [hat]; exact get_set_same _ _ _
    refine ⟨st', ⟨h1.book.agree (fun id hf => ?_) (Nat.le_refl _), ⟨fun id i1 i2 => ?_, h1.keep.next⟩, h1.foot⟩, fun j hj => ?_⟩
    · by_cases hid : id = b
      · rw [hid]; exact hset
      · exact get_set_ne _ _ hid
    · have hid : id ≠ b := fun e => i2 (.inl e)
      exact (get_set_ne _ _ hid).trans (h1.keep.h id i1 i2)
    · unfold abst
      rcases h2 j hj with ⟨a1, a2⟩ | ⟨X, m, a1, a2⟩
      · rw [a1, a2]; rfl
      · rw [a1, a2]; rfl
end
end Go.Proofs.YtedonhemfhfbaaaGreat.mod

namespace Go.Proofs.YtedonhemfhfbaaaGreat.mod
open Go Go.Am
set_option linter.unusedVariables false
set_option linter.unusedSimpArgs false

theorem nextN_tell (x : SubS) (pub : Int) (to : Nat) : nextN (tellS x pub to) pub = to + 1 := by
  unfold nextN tellS
  simp [nget_nput]
theorem nextN_ack (x : SubS) (pub : Int) (n m : Nat) (h : nget x.next pub = some m) : nextN (ackS x pub n) pub = m := by
  unfold nextN ackS
  simp [h]
theorem nget_tell (x : SubS) (pub : Int) (to : Nat) : nget (tellS x pub to).next pub = some (to + 1) := by
  unfold tellS
  simp [nget_nput]
def itemD (i : Nat) (k : Kept) (u : AV) : Dlv := ⟨i + 1, k.time, k.key, u, k.atts, 0, 0⟩
def gapD (fr to : Nat) : Dlv := ⟨0, 0, [], .nils, [], fr, to⟩
theorem itemD_gap (i : Nat) (k : Kept) (u : AV) : (itemD i k u).gap = false := rfl
theorem itemD_spanF (i : Nat) (k : Kept) (u : AV) : spanF (itemD i k u) = i + 1 := rfl
theorem itemD_spanT (i : Nat) (k : Kept) (u : AV) : spanT (itemD i k u) = i + 1 := rfl
theorem itemD_formed (i : Nat) (k : Kept) (u : AV) : formedB (itemD i k u) = true := by
  unfold formedB
  rw [itemD_gap]
  simp [itemD]
theorem itemD_right {L : List Kept} {dur i : Nat} {k : Kept} {cs : List Con} (u : AV) (hk : L[i]? = some k) (hd : i < dur) : rightB L dur cs (itemD i k u) = matchB cs k.atts := by
  unfold rightB
  rw [itemD_gap, itemD_spanT]
  have h1 : i + 1 ≤ dur := hd
  simp [itemD, hk, h1]
theorem gapD_gap {fr to : Nat} (h : 1 ≤ fr) : (gapD fr to).gap = true := by
  unfold Dlv.gap gapD
  have : ¬ fr = 0 := by omega
  simp [this]
theorem gapD_formed {fr to : Nat} (h : 1 ≤ fr) (h2 : fr ≤ to) : formedB (gapD fr to) = true := by
  unfold formedB
  rw [gapD_gap h]
  simp [gapD, h, h2]
theorem gapD_spanF {fr to : Nat} (h : 1 ≤ fr) : spanF (gapD fr to) = fr := by
  unfold spanF
  rw [gapD_gap h]
  rfl
theorem gapD_spanT {fr to : Nat} (h : 1 ≤ fr) : spanT (gapD fr to) = to := by
  unfold spanT
  rw [gapD_gap h]
  rfl
theorem one_take {α : Type} {L : List α} {i : Nat} {k : α} (hk : L[i]? = some k) : (L.drop i).take 1 = [k] := by
  obtain ⟨hi, rfl⟩ := List.getElem?_eq_some_iff.1 hk
  rw [List.drop_eq_getElem_cons hi]
  rfl
theorem gapD_right {L : List Kept} {dur i : Nat} {k : Kept} {cs : List Con} (hk : L[i]? = some k) (hd : i < dur) : rightB L dur cs (gapD (i + 1) (i + 1)) = !decide (k.state = 0) := by
  unfold rightB
  rw [gapD_gap (by omega), gapD_spanT (by omega)]
  have h1 : i + 1 ≤ dur := hd
  have h2 : i + 1 - (i + 1 - 1) = 1 := by omega
  simp [gapD, one_take hk, h1]
theorem fits_yes {L : List Kept} {dur : Nat} {x : SubS} {d : Dlv} (hf : formedB d = true) (hr : rightB L dur x.cs d = true) (h1 : nextN x 9 ≤ spanF d) (h2 : ∀ j, nextN x 9 ≤ j → j < spanF d → matchAt L x.cs j = false) (h3 : x.told = []) : fitsN L dur x 9 d = 0 := by
  unfold fitsN
  rw [hf, hr, anyM_false h2, h3]
  have : ¬ spanF d < nextN x 9 := by omega
  simp [this]
theorem fits_wrong {L : List Kept} {dur : Nat} {x : SubS} {d : Dlv} (hf : formedB d = true) (hr : rightB L dur x.cs d = false) : fitsN L dur x 9 d = 2 := by
  unfold fitsN
  rw [hf, hr]
  simp
theorem fits_late {L : List Kept} {dur : Nat} {x : SubS} {d : Dlv} (hf : formedB d = true) (hr : rightB L dur x.cs d = true) (h1 : spanF d < nextN x 9) : fitsN L dur x 9 d = 3 := by
  unfold fitsN
  rw [hf, hr]
  simp [h1]
theorem matchAt_turned {D : Bool} {L L' : List Kept} (ht : Turned D L L') (cs : List Con) (n : Nat) : matchAt L' cs n = matchAt L cs n := by
  unfold matchAt
  cases h : L[n - 1]? with
  | none =>
    have : L'[n - 1]? = none := by rw [List.getElem?_eq_none_iff] at h ⊢; rw [ht.1]; exact h
    rw [this]
  | some k =>
    obtain ⟨s, e, _⟩ := ht.2 _ k h
    rw [e]
theorem abst_some {st : Nat → Option SubX} {i : Nat} {x : SubS} (h : abst st i = some x) : ∃ X, st i = some X ∧ X.x = x := by
  unfold abst at h
  cases hs : st i with
  | none => rw [hs] at h; cases h
  | some X => rw [hs] at h; cases h; exact ⟨X, rfl, rfl⟩
theorem states_turned {L L' : List Kept} (ht : Turned false L L') (h : ∀ k, k ∈ L → k.state = 0 ∨ k.state = 1) : ∀ k, k ∈ L' → k.state = 0 ∨ k.state = 1 := fun k hk => by
  obtain ⟨i, hi⟩ := List.mem_iff_getElem?.1 hk
  have hil : i < L.length := by rw [← ht.1]; exact (List.getElem?_eq_some_iff.1 hi).1
  obtain ⟨s, e3, h3⟩ := ht.2 i _ (List.getElem?_eq_getElem hil)
  rw [hi] at e3
  cases e3
  rcases h3 with h3 | h3 | h3
  · have := h L[i] (List.getElem_mem hil)
    simp only
    rw [h3]; exact this
  · exact .inr h3
  · cases h3.2.2
theorem told_nil (x : SubS) (h : x.told = []) (n : Nat) : (ackS (tellS x 9 n) 9 n).told = [] := by
  simp only [ackS, tellS, h, List.nil_append]
  unfold keepF ackP
  simp
theorem keep_all (n : Nat) : keepF (ackP 9 n) [((9 : Int), n)] = [] := by
  unfold keepF ackP
  simp
/-- A delivery that fits: it is told, it is late then, it is acknowledged. -/
theorem told_round {S R : AS} {b h : Nat} {st : Nat → Option SubX} {v : AV} {L : List Kept} {dur : Nat} {x : SubS} {d : Dlv} {B : Nat} (o : OneAt S R.next b h st v L dur) (hR : Sub R S) (hx : abst st 3 = some x) (hd : AttsAt S d.u d.atts) (hB : S.h.get B = some (.row (encD d) 0 0 false 48)) (hBl : B < S.next)
    (hB1 : ¬ bookFoot b st B) (hB2 : ¬ histFoot h v L B) (hu : bnd d.u = 0 ∨ R.next < bnd d.u ∧ ∀ id, bnd d.u = id + 1 → ¬ bookFoot b st id ∧ ¬ histFoot h v L id) (hfit : fitsN L dur x 9 d = 0) (ht : x.told = []) (hf : formedB d = true) (hr : rightB (goneL L d) dur x.cs d = true) (hs : spanF d = spanT d) :
    ∃ (r : AV) (T1 T2 T3 T4 : AS) (st' : Nat → Option SubX), (∀ Q, CallW C0 16 [.ptr b 0 0 17, .int .i64 3, .int .i64 9, .agg (encD d), .ptr h 0 0 3] S Q = Q (.int .i64 0) T1) ∧ T1.h.get B = some (.row (encD d) 0 0 false 48) ∧
      (∀ Q, CallW C0 17 [.ptr b 0 0 17, .int .i64 3, .int .i64 9, .agg (encD d), .ptr h 0 0 3] T1 Q = Q r T2) ∧ T2.h.get B = some (.row (encD d) 0 0 false 48) ∧
      (∀ Q, CallW C0 16 [.ptr b 0 0 17, .int .i64 3, .int .i64 9, .agg (encD d), .ptr h 0 0 3] T2 Q = Q (.int .i64 3) T3) ∧ (∀ Q, CallW C0 18 [.ptr b 0 0 17, .int .i64 3, .int .i64 9, .int .u64 (spanT d : Nat)] T3 Q = Q (.int .i64 0) T4) ∧
      (∀ Q, CallW C0 19 [.ptr b 0 0 17, .int .i64 3] T4 Q = Q (.int .i64 8) T4) ∧ OneAt T4 R.next b h st' v (goneL L d) dur ∧ Sub R T4 ∧ abst st' 3 = some (ackS (tellS x 9 (spanT d)) 9 (spanT d)) := by
  obtain ⟨X, hX, rfl⟩ := abst_some hx
  have hst : stAt st 3 = some X := by rw [show (3 : Int) = ((3 : Nat) : Int) from rfl, stAt_nat st (by omega)]; exact hX
  have hfv : fitsV (stAt st 3) L dur 9 d = 0 := by rw [hst]; exact hfit
  obtain ⟨r, T1, ⟨rfl, h1⟩, e1⟩ := (fits16 o.k o.hh 3 9 d hd).ex
  have o1 := o.sub h1
  obtain ⟨r, T2, ⟨X', st2, hX', o2, ha2, hk2⟩, e2⟩ := (o1.tell 3 9 d (hd.sub h1) hfv).ex
  rw [hst] at hX'
  cases hX'
  have hd2 : AttsAt T2 d.u d.atts := ⟨(hd.sub h1).sl.agree (fun id e => hk2.h id (by have := (hd.sub h1).sl.old; omega) (fun hf => by
    rcases hu with hu | hu
    · omega
    · have := hu.2 id e
      rcases hf with hf | hf
      · exact this.1 hf
      · exact this.2 hf)) hk2.next, hd.le⟩
  have hx2 : abst st2 3 = some (tellS X.x 9 (spanT d)) := by rw [ha2]; rfl
  obtain ⟨X2, hX2, hx2'⟩ := abst_some hx2
  have hst2 : stAt st2 3 = some X2 := by rw [show (3 : Int) = ((3 : Nat) : Int) from rfl, stAt_nat st2 (by omega)]; exact hX2
  have hf2 : fitsV (stAt st2 3) (goneL L d) dur 9 d = 3 := by
    rw [hst2]
    show fitsN _ _ X2.x 9 d = 3
    rw [hx2']
    exact fits_late hf hr (by rw [nextN_tell, hs]; exact Nat.lt_succ_self _)
  obtain ⟨r3, T3, ⟨rfl, h3⟩, e3⟩ := (fits16 o2.k o2.hh 3 9 d hd2).ex
  have o3 := o2.sub h3
  obtain ⟨r4, T4, ⟨rfl, st4, hs4, ha4⟩, e4⟩ := (ack18 o3.k 3 9 (spanT d)).ex
  have hta : ackE (stAt st2 3) 9 (spanT d) = 0 := by
    rw [hst2]
    unfold ackE
    simp only [hx2']
    simp [tellS, ht]
  have o4 := o3.step hs4
  rw [hta] at ha4 e4
  have hx4 : abst st4 3 = some (ackS (tellS X.x 9 (spanT d)) 9 (spanT d)) := by
    rw [if_pos rfl, hst2] at ha4
    rw [ha4, ← hx2']; rfl
  obtain ⟨X4, hX4, hx4'⟩ := abst_some hx4
  have hst4 : stAt st4 3 = some X4 := by rw [show (3 : Int) = ((3 : Nat) : Int) from rfl, stAt_nat st4 (by omega)]; exact hX4
  rw [hfv] at e1
  rw [hf2] at e3
  have hroom : roomV (stAt st4 3) = 8 := by
    rw [hst4]
    unfold roomV
    simp only [hx4', ackS, tellS, ht, List.nil_append, keep_all]
    rfl
  have hS2 := o1.keep0 (hR.trans h1) hk2
  refine ⟨r, T1, T2, T3, T4, st4, e1, (by rw [h1.h _ hBl]; exact hB), e2, ?_, e3, e4, (fun Q => by rw [room19 o4.k 3, hroom]), o4, o3.step0 (hS2.trans h3) hs4, hx4⟩
  rw [hk2.h _ (Nat.lt_of_lt_of_le hBl h1.next) (fun hf => by
    rcases hf with hf | hf
    · exact hB1 hf
    · exact hB2 hf), h1.h _ hBl]
  exact hB
end Go.Proofs.YtedonhemfhfbaaaGreat.mod

namespace Go.Proofs.YtedonhemfhfbaaaGreat.mod
open Go Go.Am
set_option linter.unusedVariables false
set_option linter.unusedSimpArgs false

theorem bld30' (n : Int) : buildA C0 30 [(2, .int .i64 n)] = some (.agg [.int .i64 0, .int .i64 0, .int .i64 n]) := by kernel_rfl
theorem bld46' (a b : Int) : buildA C0 46 [(0, .int .u64 a), (1, .int .u64 b)] = some (.agg [.int .u64 a, .int .u64 b]) := by kernel_rfl
theorem bld48' (a b : Int) : buildA C0 48 [(1, .agg [.int .u64 a, .int .u64 b])] = some (.agg [.int .u64 0, .int .u64 0, .str [], .nils, .int .u64 a, .int .u64 b]) := by kernel_rfl
structure TryG where
  n : Nat
  to : Nat
  cr : Bool
def encTr (t : TryG) : List AV := [.int .u64 t.n, .int .u64 t.to, .bool t.cr]
theorem encTr_len (t : TryG) : (encTr t).length = 3 := rfl
structure OnceR (ks : List Con) (x : SubS) (nx ac : Nat) (op : List Nat) : Prop where
  cs : x.cs = ks.map bare
  told : x.told = op.map fun n => ((5 : Int), n)
  next : nextN x 5 = nx
  first : firstN x 5 = ac + 1
  has : op ≠ [] → nget x.next 5 = some nx
theorem OnceR.init (ks : List Con) : OnceR ks (sub0 ks) 1 0 [] := ⟨rfl, rfl, rfl, rfl, fun h => absurd rfl h⟩
section
variable {ks : List Con} {x : SubS} {nx ac : Nat} {op : List Nat}
theorem OnceR.crash (h : OnceR ks x nx ac op) : OnceR ks (crashS x) (ac + 1) ac [] :=
  ⟨h.cs, rfl, h.first, h.first, fun h => absurd rfl h⟩
theorem OnceR.tell (h : OnceR ks x nx ac op) (to : Nat) : OnceR ks (tellS x 5 to) (to + 1) ac (op ++ [to]) :=
  ⟨h.cs, by simp [tellS, h.told], nextN_tell _ _ _, h.first, fun _ => nget_tell _ _ _⟩
theorem OnceR.ack (h : OnceR ks x nx ac op) {to : Nat} (hto : to ∈ op) : OnceR ks (ackS x 5 to) nx to (op.filter fun n => decide (to < n)) := by
  have hop : op ≠ [] := List.ne_nil_of_mem hto
  have hg := h.has hop
  refine ⟨h.cs, ?_, nextN_ack _ _ _ _ hg, ?_, fun _ => hg⟩
  · show keepF (ackP 5 to) x.told = _
    rw [h.told]
    unfold keepF
    rw [List.filter_map]
    congr 1
    apply List.filter_congr
    intro n _
    simp only [Function.comp, ackP]
    by_cases hn : n ≤ to
    · have : ¬ to < n := by omega
      simp [hn]
    · have : to < n := by omega
      simp [hn, this]
  · unfold firstN ackS
    simp [nget_nput]
theorem OnceR.any (h : OnceR ks x nx ac op) (to : Nat) : (x.told.any fun y => decide (((5 : Int), to) = y)) = decide (to ∈ op) := by
  rw [h.told, List.any_map, Bool.eq_iff_iff]
  simp only [List.any_eq_true, Function.comp, decide_eq_true_eq, Prod.mk.injEq, true_and]
  constructor
  · rintro ⟨n, hn, rfl⟩; exact hn
  · intro hn; exact ⟨to, hn, rfl⟩
theorem OnceR.len (h : OnceR ks x nx ac op) : x.told.length = op.length := by rw [h.told, List.length_map]
end
def natL (l : List Nat) : List AV := l.map fun n : Nat => AV.int .u64 (n : Int)
theorem natL_len (l : List Nat) : (natL l).length = l.length := by simp [natL]
theorem natL_snoc (l : List Nat) (n : Nat) : natL l ++ [.int .u64 n] = natL (l ++ [n]) := by simp [natL]
structure OnceAt (S : AS) (lo b h : Nat) (st : Nat → Option SubX) (v : AV) (L : List Kept) (dur : Nat) (ov : AV) (op : List Nat) : Prop where
  o : OneAt S lo b h st v L dur
  g : Gw S ov 1 31 (natL op)
  a : ∀ id, bnd ov = id + 1 → lo ≤ id ∧ ¬ bookFoot b st id ∧ ¬ histFoot h v L id
section
variable {S T R : AS} {lo b h : Nat} {st st' : Nat → Option SubX} {v ov : AV} {L L' : List Kept} {dur : Nat} {op : List Nat}
theorem OnceAt.sub (o : OnceAt S lo b h st v L dur ov op) (hs : Sub S T) : OnceAt T lo b h st v L dur ov op :=
  ⟨o.o.sub hs, o.g.agree (fun id e => hs.h id (by have := o.g.1.old; omega)) hs.next, o.a⟩
theorem OnceAt.step (o : OnceAt S lo b h st v L dur ov op) (hs : Step S T b st st') : OnceAt T lo b h st' v L dur ov op :=
  ⟨o.o.step hs, o.g.agree (fun id e => hs.keep.h id (by have := o.g.1.old; omega) (o.a id e).2.1) hs.keep.next, fun id e => ⟨(o.a id e).1, fun hf => by
    rcases hs.foot id hf with h1 | h1
    · exact (o.a id e).2.1 h1
    · have := o.g.1.old; omega, (o.a id e).2.2⟩⟩
/-- The numbers that are open lie elsewhere. -/
theorem OnceAt.open_ {ov' : AV} {op' : List Nat} (o : OnceAt S lo b h st v L dur ov op) (hk : Keep (fun id => bnd ov = id + 1) S T) (hg : Gw T ov' 1 31 (natL op')) (hb : bnd ov' = 0 ∨ bnd ov' = bnd ov ∨ S.next < bnd ov') : OnceAt T lo b h st v L dur ov' op' := by
  refine ⟨⟨o.o.k.agree (fun id hf => hk.h id (o.o.k.foot hf) (fun e => (o.a id e).2.1 hf)) hk.next, o.o.hh.agree (fun id hf => hk.h id (o.o.hh.foot hf) (fun e => (o.a id e).2.2 hf)) hk.next, o.o.d, o.o.lo1, o.o.lo2, Nat.le_trans o.o.lo hk.next⟩, hg, fun id e => ?_⟩
  rcases hb with hb | hb | hb
  · omega
  · exact o.a id (by omega)
  · exact ⟨by have := o.o.lo; omega, fun hf => by have := o.o.k.foot hf; omega, fun hf => by have := o.o.hh.foot hf; omega⟩
theorem OnceAt.open0 {R : AS} (o : OnceAt S R.next b h st v L dur ov op) (h0 : Sub R S) (hk : Keep (fun id => bnd ov = id + 1) S T) : Sub R T :=
  ⟨fun id hi => (hk.h id (Nat.lt_of_lt_of_le hi h0.next) (fun e => by have := (o.a id e).1; omega)).trans (h0.h id hi), Nat.le_trans h0.next hk.next⟩
theorem OnceAt.shut (o : OnceAt S lo b h st v L dur ov op) : OnceAt S lo b h st v L dur .nils [] := ⟨o.o, Gw.nil, fun id e => by simp [bnd] at e⟩
end
/-- A number more. -/
theorem app_num {S' : AS} {v : AV} {op : List Nat} (n : Nat) (hg : Gw S' v 1 31 (natL op)) (hl : op.length ≤ 1048576) :
    ∃ v' T, builtinV C0 ⟨S'.h.set S'.next (.row [.int .u64 n] 0 0 false 31), S'.next + 1⟩ .append [66, 66] [v, .slice S'.next 0 0 1 1 1 (some 1)] = .val v' T ∧ Gw T v' 1 31 (natL (op ++ [n])) ∧ Keep (fun id => bnd v = id + 1) S' T ∧ (bnd v' = bnd v ∨ S'.next < bnd v') := by
  have hold := hg.1.old
  have hx : Sl (⟨S'.h.set S'.next (.row [.int .u64 n] 0 0 false 31), S'.next + 1⟩ : AS) (.slice S'.next 0 0 1 1 1 (some 1)) 1 [.int .u64 n] :=
    ⟨by simp [isSl, capB], by simp [rdS, rd_at], by simp [sLen], by simp [bnd]⟩
  have hgT : Gw (⟨S'.h.set S'.next (.row [.int .u64 n] 0 0 false 31), S'.next + 1⟩ : AS) v 1 31 (natL op) := hg.agree (fun id e => get_set_ne _ _ (by omega)) (Nat.le_succ _)
  have hlen : sLen v = op.length := by rw [hg.1.len1, natL_len]
  obtain ⟨v', V, e2, r1, r2, r3, r4, r5, r6, r7⟩ := append_gw (ts := []) (u := 66) (p := (31, 1, 8)) st66 un66 rfl hgT hx (by rw [hlen]; simp [fits, nble, sLen_slice]; omega)
  simp only at r1
  rw [natL_snoc] at r1
  refine ⟨v', V, e2, r1, ⟨fun id h1 h2 => ?_, by have : S'.next + 1 ≤ V.next := r3; omega⟩, ?_⟩
  · rw [r2 id (by show id < S'.next + 1; omega) (fun e => h2 e.symm)]
    exact get_set_ne _ _ (by omega)
  · rcases r6 with r6 | r6
    · exact .inl r6
    · right
      have : S'.next + 1 < bnd v' := r6
      omega
theorem filter_take {α : Type} {P : α → Bool} {l : List α} {i : Nat} {x : α} (hx : l[i]? = some x) : (l.take (i + 1)).filter P = if P x then (l.take i).filter P ++ [x] else (l.take i).filter P := by
  obtain ⟨hi, rfl⟩ := List.getElem?_eq_some_iff.1 hx
  rw [List.take_succ_eq_append_getElem hi, List.filter_append]
  cases h : P l[i] <;> simp [h]
theorem mem_take {l : List Nat} {i x to : Nat} (hx : l[i]? = some x) : decide (to ∈ l.take (i + 1)) = (decide (to ∈ l.take i) || decide (x = to)) := by
  obtain ⟨hi, rfl⟩ := List.getElem?_eq_some_iff.1 hx
  rw [List.take_succ_eq_append_getElem hi]
  rw [Bool.eq_iff_iff]
  simp only [decide_eq_true_eq, Bool.or_eq_true, List.mem_append, List.mem_singleton]
  constructor
  · rintro (h | h)
    · exact .inl h
    · exact .inr h.symm
  · rintro (h | h)
    · exact .inl h
    · exact .inr h.symm
theorem bne_bool (c a b : Bool) : binV C0 .neq 4 c (.bool a) (.bool b) = some (.bool (a != b)) := by
  cases a <;> cases b <;> cases c <;> kernel_rfl
theorem beq_bool (c a b : Bool) : binV C0 .eql 4 c (.bool a) (.bool b) = some (.bool (a == b)) := by
  cases a <;> cases b <;> cases c <;> kernel_rfl
/-- Item, of any number: a delivery. -/
theorem item_of {S : AS} {h : Nat} {v : AV} {L : List Kept} {dur : Nat} (hh : HistAt S h v L dur) (n : Nat) : CallW C0 14 [.ptr h 0 0 3, .int .u64 n] S fun r T =>
    ∃ (d : Dlv) (s : Int) (is : Bool), r = .tuple [.agg [.int .u64 d.n, .int .u64 d.time, .str d.key, d.u], .int .i64 s, .bool is] ∧ AttsAt T d.u d.atts ∧ (bnd d.u = 0 ∨ S.next < bnd d.u) ∧ Sub S T ∧ d.fr = 0 ∧ d.to = 0 ∧ (d.n = 0 ∨ ∃ k, L[n - 1]? = some k ∧ 1 ≤ n ∧ d = itemD (n - 1) k d.u ∧ is = true ∧ s = k.state) := by
  by_cases hn : n < 1 ∨ L.length < n
  · obtain ⟨r, T, ⟨rfl, hT⟩, e⟩ := (item_no hh hn).ex
    rw [e]
    exact ⟨⟨0, 0, [], .nils, [], 0, 0⟩, 0, false, rfl, atts_nil, .inl rfl, hT, rfl, rfl, .inl rfl⟩
  · obtain ⟨m, rfl⟩ : ∃ m, n = m + 1 := ⟨n - 1, by omega⟩
    have hk : L[m]? = some (L[m]'(by omega)) := List.getElem?_eq_getElem _
    obtain ⟨r, T, ⟨u', rfl, h1, h2, hT⟩, e⟩ := (item_yes hh hk).ex
    rw [e]
    exact ⟨itemD m L[m] u', _, true, rfl, h1, h2, hT, rfl, rfl, .inr ⟨L[m], hk, by omega, rfl, rfl, rfl⟩⟩
/-- What is tried to tell. -/
def Tried (t : TryG) (L : List Kept) (d : Dlv) (to : Nat) : Prop :=
  (t.to = 0 ∧ to = t.n ∧ d.fr = 0 ∧ d.to = 0 ∧ (d.n = 0 ∨ ∃ k, L[t.n - 1]? = some k ∧ 1 ≤ t.n ∧ d = itemD (t.n - 1) k d.u)) ∨ (0 < t.to ∧ to = t.to ∧ d = gapD t.n t.to)
theorem Tried.span {t : TryG} {L : List Kept} {d : Dlv} {to : Nat} (ht : Tried t L d to) (hf : formedB d = true) (hn : 1 ≤ t.n) : spanF d = t.n ∧ spanT d = to := by
  rcases ht with ⟨h1, h2, h3, h4, h5⟩ | ⟨h1, h2, rfl⟩
  · have hg : d.gap = false := by unfold Dlv.gap; simp [h3, h4]
    have hp : 1 ≤ d.n := by
      unfold formedB at hf
      rw [hg] at hf
      simpa using hf
    rcases h5 with h5 | ⟨k, h5, h6, h7⟩
    · omega
    · have hdn : d.n = t.n := by rw [h7]; show t.n - 1 + 1 = t.n; omega
      unfold spanF spanT
      rw [hg]
      simp only [if_true]
      omega
  · exact ⟨gapD_spanF hn, by rw [gapD_spanT hn, h2]⟩
theorem OneAt.tellf {S : AS} {lo b h : Nat} {st : Nat → Option SubX} {v : AV} {L : List Kept} {dur : Nat} (o : OneAt S lo b h st v L dur) (id pub : Int) (d : Dlv) (hd : AttsAt S d.u d.atts) (hf : fitsV (stAt st id) L dur pub d = 0) :
    CallW C0 17 [.ptr b 0 0 17, .int .i64 id, .int .i64 pub, .agg (encD d), .ptr h 0 0 3] S fun r T => ∃ X st', stAt st id = some X ∧ OneAt T lo b h st' v (goneL L d) dur ∧ abst st' = updS (abst st) id.toNat (some (tellS X.x pub (spanT d))) ∧ Keep (fun id => bookFoot b st id ∨ histFoot h v L id) S T ∧ (∀ id, bookFoot b st' id → bookFoot b st id ∨ S.next ≤ id) := by
  obtain ⟨r, T, ⟨X, tv, S1, h1, h2, h3, h4, h5, h6⟩, e⟩ := (tell_yes o.k o.hh id pub d hd (fun i a c => o.d i a c) hf).ex
  rw [e]
  have ht := goneL_turned (doubtUp L dur) L d
  have hk : Keep (fun id => histFoot h v L id) S S1 := h2.mono fun i _ ⟨_, e⟩ => .inr (.inl e)
  have o1 := o.turn hk h3 (fun id hf => ht.foot hf)
  exact ⟨X, _, h1, o1.step h5, abst_upd, (hk.mono fun i _ h => .inr h).trans (h5.keep.mono fun i _ h => .inl h), fun id hf => by
    rcases h5.foot id hf with h | h
    · exact .inl h
    · exact .inr (Nat.le_trans hk.next h)⟩
theorem OnceAt.told {S T : AS} {lo b h : Nat} {st st' : Nat → Option SubX} {v ov : AV} {L L' : List Kept} {dur : Nat} {op : List Nat} {D : Bool} (o : OnceAt S lo b h st v L dur ov op) (o' : OneAt T lo b h st' v L' dur) (hk : Keep (fun id => bookFoot b st id ∨ histFoot h v L id) S T) (hf : ∀ id, bookFoot b st' id → bookFoot b st id ∨ S.next ≤ id) (ht : Turned D L L') : OnceAt T lo b h st' v L' dur ov op :=
  ⟨o', o.g.agree (fun id e => hk.h id (by have := o.g.1.old; omega) (fun h => by
    rcases h with h | h
    · exact (o.a id e).2.1 h
    · exact (o.a id e).2.2 h)) hk.next, fun id e => ⟨(o.a id e).1, fun hb => by
    rcases hf id hb with h | h
    · exact (o.a id e).2.1 h
    · have := o.g.1.old; omega, fun hh => (o.a id e).2.2 (ht.foot hh)⟩⟩
theorem anyM_off {L : List Kept} {cs : List Con} {lo hi j : Nat} (h : anyM L cs lo hi = false) (h1 : lo ≤ j) (h2 : j < hi) : matchAt L cs j = false := by
  cases hm : matchAt L cs j with
  | false => rfl
  | true => rw [anyM_true h1 h2 hm] at h; cases h
/-- What is told is gone, or matches. -/
theorem Tried.state {t : TryG} {L : List Kept} {d : Dlv} {to dur n : Nat} {cs : List Con} {k : Kept} (ht : Tried t L d to) (hf : formedB d = true) (hr : rightB L dur cs d = true) (hn : 1 ≤ t.n) (h1 : t.n ≤ n) (h2 : n ≤ to) (hk : (goneL L d)[n - 1]? = some k) : (0 < t.to → k.state = 1) ∧ (t.to = 0 → matchB cs k.atts = true) := by
  rcases ht with ⟨g1, g2, g3, g4, g5⟩ | ⟨g1, g2, rfl⟩
  · refine ⟨fun h => by omega, fun _ => ?_⟩
    have hg : d.gap = false := by unfold Dlv.gap; simp [g3, g4]
    have hp : 1 ≤ d.n := by
      unfold formedB at hf
      rw [hg] at hf
      simpa using hf
    rcases g5 with g5 | ⟨k', g5, g6, g7⟩
    · omega
    · have hnn : n = t.n := by omega
      have hgl : goneL L d = L := by unfold goneL; rw [hg]; rfl
      rw [hgl, hnn, g5] at hk
      cases hk
      rw [g7] at hr
      unfold rightB at hr
      simp only [Bool.and_eq_true, decide_eq_true_eq] at hr
      have hd : t.n - 1 < dur := by have := hr.1; rw [itemD_spanT] at this; omega
      have h3 := itemD_right (cs := cs) d.u g5 hd
      rw [← h3]
      unfold rightB
      simp only [Bool.and_eq_true, decide_eq_true_eq]
      exact hr
  · refine ⟨fun _ => ?_, fun h => by omega⟩
    have hgl : goneL L (gapD t.n t.to) = goneUp L t.n (t.to + 1 - t.n) := by unfold goneL; rw [gapD_gap hn]; rfl
    rw [hgl, goneUp_get] at hk
    cases hL : L[n - 1]? with
    | none => rw [hL] at hk; cases hk
    | some k' =>
      rw [hL] at hk
      simp only [Option.map_some, Option.some.injEq] at hk
      rw [if_pos (by omega)] at hk
      rw [← hk]
end Go.Proofs.YtedonhemfhfbaaaGreat.mod

namespace Go.Proofs.YtedonhemfhfbaaaGreat.mod
open Go Go.Am
set_option linter.unusedVariables false
set_option linter.unusedSimpArgs false

/-- The head of the law's rounds. -/
def onceH (S : AS) (p xt : AV) (ks : List Con) (tl : List TryG) (k : Nat) (F' : Fr) (S' : AS) : Prop :=
  ∃ (i b h : Nat) (st : Nat → Option SubX) (v ov : AV) (L : List Kept) (op : List Nat) (x : SubS) (nx ac : Nat), OnceAt S' S.next b h st v L L.length ov op ∧ Sub S S' ∧ abst st 0 = some x ∧ OnceR ks x nx ac op ∧ sl F' 1 = p ∧ sl F' 2 = xt ∧ sl F' 11 = .ptr h 0 0 3 ∧ sl F' 12 = .ptr b 0 0 17 ∧ sl F' 13 = .int .u64 nx ∧ sl F' 14 = .int .u64 ac ∧ sl F' 15 = ov ∧
    sl F' 16 = .int .i64 i ∧ F'.n = 268 ∧ i ≤ tl.length ∧ k = tl.length - i
theorem onceH_mk {S : AS} {p xt : AV} {ks : List Con} {tl : List TryG} {k : Nat} {F' : Fr} {S' : AS} {i b h : Nat} {st : Nat → Option SubX} {v ov : AV} {L : List Kept} {op : List Nat} {x : SubS} {nx ac : Nat} (h1 : OnceAt S' S.next b h st v L L.length ov op) (h2 : Sub S S') (h3 : abst st 0 = some x) (h4 : OnceR ks x nx ac op) (h5 : sl F' 1 = p) (h6 : sl F' 2 = xt) (h7 : sl F' 11 = .ptr h 0 0 3) (h8 : sl F' 12 = .ptr b 0 0 17)
    (h9 : sl F' 13 = .int .u64 nx) (h10 : sl F' 14 = .int .u64 ac) (h11 : sl F' 15 = ov) (h12 : sl F' 16 = .int .i64 i) (h13 : F'.n = 268) (h14 : i ≤ tl.length) (h15 : k = tl.length - i) : onceH S p xt ks tl k F' S' := ⟨i, b, h, st, v, ov, L, op, x, nx, ac, h1, h2, h3, h4, h5, h6, h7, h8, h9, h10, h11, h12, h13, h14, h15⟩
/-- Within a round. -/
def roundM (S : AS) (p xt : AV) (ks : List Con) (t : TryG) (i b h : Nat) (v : AV) (L : List Kept) (F' : Fr) (S' : AS) : Prop :=
  ∃ (st : Nat → Option SubX) (ov : AV) (op : List Nat) (x : SubS) (nx ac B : Nat), OnceAt S' S.next b h st v L L.length ov op ∧ Sub S S' ∧ abst st 0 = some x ∧ OnceR ks x nx ac op ∧ S'.h.get B = some (.row [.int .u64 t.n, .int .u64 t.to, .bool t.cr] 0 0 false 68) ∧ B < S'.next ∧ (¬ bookFoot b st B ∧ ¬ histFoot h v L B ∧ bnd ov ≠ B + 1) ∧
    sl F' 1 = p ∧ sl F' 2 = xt ∧ sl F' 11 = .ptr h 0 0 3 ∧ sl F' 12 = .ptr b 0 0 17 ∧ sl F' 13 = .int .u64 nx ∧ sl F' 14 = .int .u64 ac ∧ sl F' 15 = ov ∧ sl F' 16 = .int .i64 i ∧ sl F' 17 = .ptr B 0 0 3 ∧ F'.n = 268
theorem roundM_mk {S : AS} {p xt : AV} {ks : List Con} {t : TryG} {i b h : Nat} {v : AV} {L : List Kept} {F' : Fr} {S' : AS} {st : Nat → Option SubX} {ov : AV} {op : List Nat} {x : SubS} {nx ac B : Nat} (h1 : OnceAt S' S.next b h st v L L.length ov op) (h2 : Sub S S') (h3 : abst st 0 = some x) (h4 : OnceR ks x nx ac op) (h5 : S'.h.get B = some (.row [.int .u64 t.n, .int .u64 t.to, .bool t.cr] 0 0 false 68)) (h6 : B < S'.next) (h7 : ¬ bookFoot b st B ∧ ¬ histFoot h v L B ∧ bnd ov ≠ B + 1)
    (h8 : sl F' 1 = p) (h9 : sl F' 2 = xt) (h10 : sl F' 11 = .ptr h 0 0 3) (h11 : sl F' 12 = .ptr b 0 0 17) (h12 : sl F' 13 = .int .u64 nx) (h13 : sl F' 14 = .int .u64 ac) (h14 : sl F' 15 = ov) (h15 : sl F' 16 = .int .i64 i) (h16 : sl F' 17 = .ptr B 0 0 3) (h17 : F'.n = 268) : roundM S p xt ks t i b h v L F' S' :=
  ⟨st, ov, op, x, nx, ac, B, h1, h2, h3, h4, h5, h6, h7, h8, h9, h10, h11, h12, h13, h14, h15, h16, h17⟩
theorem OnceR.lt {S : AS} {b : Nat} {st : Nat → Option SubX} {ks : List Con} {x : SubS} {nx ac : Nat} {op : List Nat} (hb : BookAt S b st) (hx : abst st 0 = some x) (h : OnceR ks x nx ac op) : 1 ≤ nx ∧ nx ≤ 1048577 ∧ ac ≤ 1048576 := by
  obtain ⟨X, hX, rfl⟩ := abst_some hx
  have hM := hb.sub 0 X hX
  have h1 := hM.next_le 5
  rw [h.next] at h1
  refine ⟨h1.1, h1.2, ?_⟩
  have h2 := h.first
  unfold firstN at h2
  cases hc : nget X.x.cur 5 with
  | none => rw [hc] at h2; simp only at h2; omega
  | some n =>
    rw [hc] at h2
    have := hM.n2 _ (nget_mem hc)
    simp only at this h2
    omega
/-- Within a round, a delivery laid. -/
def dlvM (S : AS) (p xt : AV) (ks : List Con) (t : TryG) (i b h : Nat) (v : AV) (L : List Kept) (F' : Fr) (S' : AS) : Prop :=
  ∃ (st : Nat → Option SubX) (ov : AV) (op : List Nat) (x : SubS) (nx ac B B2 to : Nat) (d : Dlv), OnceAt S' S.next b h st v L L.length ov op ∧ Sub S S' ∧ abst st 0 = some x ∧ OnceR ks x nx ac op ∧ S'.h.get B = some (.row [.int .u64 t.n, .int .u64 t.to, .bool t.cr] 0 0 false 68) ∧ B < S'.next ∧ (¬ bookFoot b st B ∧ ¬ histFoot h v L B ∧ bnd ov ≠ B + 1) ∧
    (S'.h.get B2 = some (.row (encD d) 0 0 false 48) ∧ B2 < S'.next ∧ ¬ bookFoot b st B2 ∧ ¬ histFoot h v L B2) ∧ (AttsAt S' d.u d.atts ∧ ∀ id, bnd d.u = id + 1 → ¬ bookFoot b st id ∧ ¬ histFoot h v L id) ∧ Tried t L d to ∧
    sl F' 1 = p ∧ sl F' 2 = xt ∧ sl F' 11 = .ptr h 0 0 3 ∧ sl F' 12 = .ptr b 0 0 17 ∧ sl F' 13 = .int .u64 nx ∧ sl F' 14 = .int .u64 ac ∧ sl F' 15 = ov ∧ sl F' 16 = .int .i64 i ∧ sl F' 17 = .ptr B 0 0 3 ∧ sl F' 25 = .ptr B2 0 0 6 ∧ sl F' 26 = .int .u64 t.n ∧ sl F' 27 = .int .u64 to ∧ F'.n = 268
theorem dlvM_mk {S : AS} {p xt : AV} {ks : List Con} {t : TryG} {i b h : Nat} {v : AV} {L : List Kept} {F' : Fr} {S' : AS} {st : Nat → Option SubX} {ov : AV} {op : List Nat} {x : SubS} {nx ac B B2 to : Nat} {d : Dlv} (h1 : OnceAt S' S.next b h st v L L.length ov op) (h2 : Sub S S') (h3 : abst st 0 = some x) (h4 : OnceR ks x nx ac op) (h5 : S'.h.get B = some (.row [.int .u64 t.n, .int .u64 t.to, .bool t.cr] 0 0 false 68)) (h6 : B < S'.next) (h7 : ¬ bookFoot b st B ∧ ¬ histFoot h v L B ∧ bnd ov ≠ B + 1)
    (h8 : S'.h.get B2 = some (.row (encD d) 0 0 false 48) ∧ B2 < S'.next ∧ ¬ bookFoot b st B2 ∧ ¬ histFoot h v L B2) (h9 : AttsAt S' d.u d.atts ∧ ∀ id, bnd d.u = id + 1 → ¬ bookFoot b st id ∧ ¬ histFoot h v L id) (h10 : Tried t L d to)
    (g1 : sl F' 1 = p) (g2 : sl F' 2 = xt) (g3 : sl F' 11 = .ptr h 0 0 3) (g4 : sl F' 12 = .ptr b 0 0 17) (g5 : sl F' 13 = .int .u64 nx) (g6 : sl F' 14 = .int .u64 ac) (g7 : sl F' 15 = ov) (g8 : sl F' 16 = .int .i64 i) (g9 : sl F' 17 = .ptr B 0 0 3) (g10 : sl F' 25 = .ptr B2 0 0 6) (g11 : sl F' 26 = .int .u64 t.n) (g12 : sl F' 27 = .int .u64 to) (g13 : F'.n = 268) : dlvM S p xt ks t i b h v L F' S' :=
  ⟨st, ov, op, x, nx, ac, B, B2, to, d, h1, h2, h3, h4, h5, h6, h7, h8, h9, h10, g1, g2, g3, g4, g5, g6, g7, g8, g9, g10, g11, g12, g13⟩
/-- What is left of the numbers that are open. -/
def leftH (T : AS) (p xt : AV) (op : List Nat) (to : Nat) (ov w11 w12 w13 w14 w16 w17 w18 : AV) (k : Nat) (F' : Fr) (S' : AS) : Prop :=
  ∃ (j : Nat) (lv : AV), Sub T S' ∧ Gw S' lv 1 31 (natL ((op.take j).filter fun n => decide (to < n))) ∧ (bnd lv = 0 ∨ T.next < bnd lv) ∧ sl F' 1 = p ∧ sl F' 2 = xt ∧ sl F' 11 = w11 ∧ sl F' 12 = w12 ∧ sl F' 13 = w13 ∧ sl F' 14 = w14 ∧ sl F' 15 = ov ∧ sl F' 16 = w16 ∧ sl F' 17 = w17 ∧ sl F' 18 = w18 ∧ sl F' 19 = .bool (decide (to ∈ op.take j)) ∧ sl F' 20 = lv ∧ sl F' 21 = .int .i64 j ∧ F'.n = 268 ∧ j ≤ op.length ∧ k = op.length - j
theorem leftH_mk {T : AS} {p xt : AV} {op : List Nat} {to : Nat} {ov w11 w12 w13 w14 w16 w17 w18 : AV} {k : Nat} {F' : Fr} {S' : AS} (j : Nat) (lv : AV) (h1 : Sub T S') (h2 : Gw S' lv 1 31 (natL ((op.take j).filter fun n => decide (to < n)))) (h3 : bnd lv = 0 ∨ T.next < bnd lv) (h4 : sl F' 1 = p) (h5 : sl F' 2 = xt) (h6 : sl F' 11 = w11) (h7 : sl F' 12 = w12) (h8 : sl F' 13 = w13) (h9 : sl F' 14 = w14) (h10 : sl F' 15 = ov)
    (h11 : sl F' 16 = w16) (h12 : sl F' 17 = w17) (h13 : sl F' 18 = w18) (h14 : sl F' 19 = .bool (decide (to ∈ op.take j))) (h15 : sl F' 20 = lv) (h16 : sl F' 21 = .int .i64 j) (h17 : F'.n = 268) (h18 : j ≤ op.length) (h19 : k = op.length - j) : leftH T p xt op to ov w11 w12 w13 w14 w16 w17 w18 k F' S' := ⟨j, lv, h1, h2, h3, h4, h5, h6, h7, h8, h9, h10, h11, h12, h13, h14, h15, h16, h17, h18, h19⟩
/-- A loop over numbers of events. -/
def numI (T : AS) (p xt : AV) (w11 w12 w13 w14 w15 w16 w17 w26 w27 : AV) (q : Nat) (lo hi : Nat) (k : Nat) (F' : Fr) (S' : AS) : Prop :=
  ∃ n : Nat, Sub T S' ∧ sl F' 1 = p ∧ sl F' 2 = xt ∧ sl F' 11 = w11 ∧ sl F' 12 = w12 ∧ sl F' 13 = w13 ∧ sl F' 14 = w14 ∧ sl F' 15 = w15 ∧ sl F' 16 = w16 ∧ sl F' 17 = w17 ∧ sl F' 26 = w26 ∧ sl F' 27 = w27 ∧ sl F' q = .int .u64 n ∧ F'.n = 268 ∧ lo ≤ n ∧ n ≤ hi ∧ k = hi - n
theorem numI_mk {T : AS} {p xt : AV} {w11 w12 w13 w14 w15 w16 w17 w26 w27 : AV} {q lo hi k : Nat} {F' : Fr} {S' : AS} (n : Nat) (h1 : Sub T S') (h2 : sl F' 1 = p) (h3 : sl F' 2 = xt) (h4 : sl F' 11 = w11) (h5 : sl F' 12 = w12) (h6 : sl F' 13 = w13) (h7 : sl F' 14 = w14) (h8 : sl F' 15 = w15) (h9 : sl F' 16 = w16) (h10 : sl F' 17 = w17)
    (h11 : sl F' 26 = w26) (h12 : sl F' 27 = w27) (h13 : sl F' q = .int .u64 n) (h14 : F'.n = 268) (h15 : lo ≤ n) (h16 : n ≤ hi) (h17 : k = hi - n) : numI T p xt w11 w12 w13 w14 w15 w16 w17 w26 w27 q lo hi k F' S' := ⟨n, h1, h2, h3, h4, h5, h6, h7, h8, h9, h10, h11, h12, h13, h14, h15, h16, h17⟩
/-- What is known of the history ahead of the book. -/
def hMid (S : AS) (p x : AV) (doubt : Bool) (h : Nat) (v : AV) (m : Nat) (F' : Fr) (V : AS) : Prop :=
  ∃ L : List Kept, HistAt V h v L m ∧ L.length = m ∧ Sub S V ∧ (∀ id, histFoot h v L id → S.next ≤ id) ∧ sl F' 1 = p ∧ sl F' 2 = x ∧ sl F' 4 = .bool doubt ∧ sl F' 11 = .ptr h 0 0 3 ∧ F'.n = 268
theorem hMid_mk {S : AS} {p x : AV} {doubt : Bool} {h : Nat} {v : AV} {m : Nat} {F' : Fr} {V : AS} {L : List Kept} (h1 : HistAt V h v L m) (h2 : L.length = m) (h3 : Sub S V) (h4 : ∀ id, histFoot h v L id → S.next ≤ id) (h5 : sl F' 1 = p) (h6 : sl F' 2 = x) (h7 : sl F' 4 = .bool doubt) (h8 : sl F' 11 = .ptr h 0 0 3) (h9 : F'.n = 268) : hMid S p x doubt h v m F' V :=
  ⟨L, h1, h2, h3, h4, h5, h6, h7, h8, h9⟩
/-- The history turns, where only its own block changes. -/
theorem hist_keep {S T V : AS} {h : Nat} {v : AV} {L L' : List Kept} {D : Bool} (hT : Sub S T) (hft : ∀ id, histFoot h v L id → S.next ≤ id) (hk : Keep (fun id => bnd v = id + 1) T V) : Sub S V :=
  ⟨fun id hid => (hk.h id (Nat.lt_of_lt_of_le hid hT.next) (fun e => by have := hft id (.inr (.inl e)); omega)).trans (hT.h id hid), Nat.le_trans hT.next hk.next⟩
theorem nt5 : Tryz.f5.ntmps = 268 := by kernel_rfl
set_option maxRecDepth 20000 in
theorem law5 {S : AS} {xl p xt : AV} {l : List Ev} {ks : List Con} {tl : List TryG} {keep : Nat} {doubt : Bool} (hx : EvsAt S xl l) (hp : PredAt S p ks) (ht : Sl S xt 3 (tl.flatMap encTr)) (htl : tl.length ≤ 9223372036854775807) (hl : l.length ≤ 9223372036854775807) (hk : keep < 256) :
    CallW C0 5 [xl, p, xt, .int .u8 keep, .bool doubt] S fun r T => r = .bool true := by
  have u1 := hx.sl.sl
  have u2 := hx.sl.len_flat encE_len (by omega)
  refine enterW (pu0 _) (pr0 _ rfl) fn5 rfl ok5 (by simp) fun F hn hs => ?_
  rw [nt5] at hn
  have s0 := hs 0
  have s1 := hs 1
  have s2 := hs 2
  have s3 := hs 3
  have s4 := hs 4
  clear hs
  simp only [List.getElem?_cons_zero, List.getElem?_cons_succ, Option.getD_some] at s0 s1 s2 s3 s4
  obtain ⟨m, hm, hm2, hm3⟩ : ∃ m : Nat, (if (30 : Int) < l.length then 30 else (l.length : Int)) = m ∧ m ≤ l.length ∧ m ≤ 30 := by
    by_cases h : (30 : Int) < l.length
    · exact ⟨30, by rw [if_pos h]; rfl, by omega, Nat.le_refl _⟩
    · exact ⟨l.length, by rw [if_neg h], Nat.le_refl _, by omega⟩
  have hcut := cut_flat hx.sl encE_len (by omega) (l := 0) (k := m) (by omega) hm2
  have hev : EvsAt S (subA xl 0 m) ((l.drop 0).take (m - 0)) := ⟨hcut, fun e he => hx.att e (List.mem_of_mem_drop (List.mem_of_mem_take he))⟩
  have hlm : ((l.drop 0).take (m - 0)).length = m := by simp; omega
  obtain ⟨r, T, ⟨h, v, L, rfl, hh, hof, hT, hft⟩, e1⟩ := (history8 hev (by omega)).ex
  rw [hlm] at hh
  have hLm : L.length = m := hof.1.trans hlm
  have hwk : IntKind.i64.wrap (keep : Int) = (keep : Int) := IntWalk.i64_in _ (by omega)
  simp [-wpP_cond, s0, s1, s2, s3, s4, u1, u2, hm, hm2, e1, ex0]
  refine cut_of (hMid S p xt doubt h v m) ?_ ?_
  · by_cases hk0 : 0 < keep
    · obtain ⟨r, V, ⟨x, y, L', rfl, g1, g2, g3⟩, e2⟩ := (retain9 hh 0 0 (keep : Int) 0).ex
      have ht' : Turned (doubtUp L m) L L' := by
        rcases g1 with ⟨rfl, _⟩ | ⟨g1, _⟩
        · exact Turned.refl _ _
        · exact (g1.turned).1
      have e2' : ∀ Q, CallW C0 9 [.ptr h 0 0 3, .agg [.int .i64 0, .int .i64 0, .int .i64 keep], .int .u64 (0 : Int)] T Q = Q (.tuple [.int .i64 x, .int .i64 y]) V := e2
      simp [hk0, s1, s2, s3, s4, bld30', hwk, e2', ex0]
      exact hMid_mk g2 (ht'.1.trans hLm) (hist_keep (L' := L') (D := true) hT hft g3) (fun id hf => hft id (ht'.foot hf)) (by simp [s1]) (by simp [s2]) (by simp [s4]) (by simp) (by simp [hn])
    · simp [hk0]
      exact hMid_mk hh hLm hT hft (by simp [s1]) (by simp [s2]) (by simp [s4]) (by simp) (by simp [hn])
  clear e1 hh hof hT hft hLm s0 s1 s2 s3 s4 hn L T
  rintro F1 T ⟨L, hh, hLm, hT, hft, s1, s2, s4, s11, hn⟩
  simp [-wpP_cond, kcode_app, s1, s2, s4, s11]
  refine cut_of (hMid S p xt doubt h v m) ?_ ?_
  · cases doubt with
    | true =>
      obtain ⟨r, V, ⟨rfl, g1, g2⟩, e2⟩ := (doubts24 hh).ex
      simp [s1, s2, s4, s11, e2, ex0]
      exact hMid_mk g1 ((doubtL_len _ _).trans hLm) (hist_keep (L' := L) (D := true) hT hft g2) (fun id hf => hft id ((doubtL_turned L L.length).foot hf)) (by simp [s1]) (by simp [s2]) (by simp [s4]) (by simp [s11]) (by simp [hn])
    | false =>
      simp
      exact hMid_mk hh hLm hT hft (by simp [s1]) (by simp [s2]) (by simp [s4]) (by simp [s11]) (by simp [hn])
  clear hh hT hft hLm s1 s2 s4 s11 hn L T F1 F
  rintro F T ⟨L, hh, hLm, hT, hft, s1, s2, s4, s11, hn⟩
  obtain ⟨r, W, ⟨rfl, hb, hW⟩, e3⟩ := (newBook10 (S := T)).ex
  have hSW := hT.trans hW
  have hVn := hT.next
  have hO : OneAt W S.next T.next h (fun _ => none) v L m := by
    refine ⟨hb, hh.sub hW, ?_, ?_, hft, hSW.next⟩
    · intro id f1 f2
      have := foot0 f1
      have := hh.foot f2
      omega
    · intro id f1
      have := foot0 f1
      omega
  obtain ⟨r, X, ⟨rfl, st', hSt, hab⟩, e4⟩ := (subscribe11 hO.k (hp.sub hSW) 0).ex
  have hO2 := hO.step hSt
  have hSX := hO.step0 hSW hSt
  have hE : subE (fun _ => none) 0 ks = if mayP ks = false then 30 else 0 := by unfold subE; simp
  rw [hE] at e4 hab
  cases hmay : mayP ks with
  | false =>
    rw [hmay] at e4 hab
    obtain ⟨r, Y, ⟨rfl, st2, hSt2, hab2⟩, e5⟩ := (subscribe11 hO2.k (hp.sub hSX) 0).ex
    have hE2 : subE st' 0 ks = 30 := by unfold subE; simp [hmay]
    rw [hE2] at e5
    simp [s1, s2, s4, s11, e3, e4, e5, ex0, okW_sl hp.sl, d12]
  | true =>
    rw [hmay] at e4 hab
    simp only [Bool.true_eq_false, if_false, if_true] at e4 hab
    simp [s1, s2, s4, s11, e3, e4, ex0, okW_sl hp.sl]
    refine loopP_of (onceH S p xt ks tl) tl.length (onceH_mk (i := 0) (L := L) ⟨by rw [hLm]; exact hO2, Gw.nil, fun id e => by simp [bnd] at e⟩ hSX (by rw [hab]; rfl) (OnceR.init ks) (by simp [s1]) (by simp [s2]) (by simp [s11]) (by simp) (by simp) (by simp) (by simp) (by simp) (by simp [hn]) (Nat.zero_le _) rfl) ?_
    clear hab hSX hO2 hSt e4 hE hO hVn hSW hW hb e3 st' X W s1 s2 s4 s11 hn hft hT hLm hh L
    rintro k F S' hn0 ⟨i, b, h, st, v, ov, L, op, x, nx, ac, hO, hS, hx0, hR, s1, s2, s11, s12, s13, s14, s15, s16, hn, hi, hk⟩
    clear hn0
    have v1 := ht.sl
    have v2 := ht.len_flat encTr_len (by omega)
    by_cases hi' : i < tl.length
    · by_cases h80 : (i : Int) < 80
      · have hti : tl[i]? = some (tl[i]'hi') := List.getElem?_eq_getElem hi'
        generalize tl[i]'hi' = t at hti
        have hlo := loadT_el (cx := C0) (e := 68) (ht.toSub hS) encTr_len (by omega) hti ag68 sz68
        simp only [encTr] at hlo
        simp [-wpP_cond, s1, s2, s11, s12, s13, s14, s15, s16, v1, v2, hi', h80, hlo]
        rw [wpP_cond]
        simp [-wpP_cond, s1, s2, s11, s12, s13, s14, s15, s16, v1, v2, hi', h80, hlo]
        have hA : Sub S' ⟨(S'.h.set S'.next (.row [.int .u64 0, .int .u64 0, .bool false] 0 0 false 68)).set S'.next (.row [.int .u64 t.n, .int .u64 t.to, .bool t.cr] 0 0 false 68), S'.next + 1⟩ := sub1s
        have hOA := hO.sub hA
        have hbt := hR.lt hO.o.k hx0
        have hB : ¬ bookFoot b st S'.next ∧ ¬ histFoot h v L S'.next ∧ bnd ov ≠ S'.next + 1 := ⟨fun hf => by have := hO.o.k.foot hf; omega, fun hf => by have := hO.o.hh.foot hf; omega, by have := hO.g.1.old; omega⟩
        refine cut_of (roundM S p xt ks t i b h v L) ?_ ?_
        · cases hc : t.cr with
          | false =>
            rw [hc] at hA hOA
            simp
            exact roundM_mk hOA (hS.trans hA) hx0 hR (by rw [hc]; exact get_set_same _ _ _) (Nat.lt_succ_self _) hB (by simp [s1]) (by simp [s2]) (by simp [s11]) (by simp [s12]) (by simp [s13]) (by simp [s14]) (by simp [s15]) (by simp [s16]) (by simp) (by simp [hn])
          | true =>
            rw [hc] at hA hOA
            obtain ⟨r, T, ⟨rfl, st', hSt, hab⟩, e1⟩ := (crash25 hOA.o.k).ex
            have hw := u64_succ (n := ac) (by omega)
            simp [s1, s2, s11, s12, s13, s14, s15, s16, e1, ex0, hw]
            have hg : T.h.get S'.next = some (.row [.int .u64 t.n, .int .u64 t.to, .bool t.cr] 0 0 false 68) := by
              rw [hSt.keep.h _ (Nat.lt_succ_self _) hB.1, hc]
              exact get_set_same _ _ _
            refine roundM_mk (hOA.step hSt).shut (hOA.o.step0 (hS.trans hA) hSt) (by rw [hab 0 (by omega), hx0]; rfl) hR.crash hg (Nat.lt_of_lt_of_le (Nat.lt_succ_self _) hSt.keep.next) ⟨fun hf => ?_, hB.2.1, by simp [bnd]⟩ (by simp [s1]) (by simp [s2]) (by simp [s11]) (by simp [s12]) (by simp) (by simp [s14]) (by simp) (by simp [s16]) (by simp) (by simp [hn])
            rcases hSt.foot _ hf with h1 | h1
            · exact hB.1 h1
            · have h1 : S'.next + 1 ≤ S'.next := h1
              omega
        clear hB hbt hOA hA hlo hR hx0 hS hO s1 s2 s11 s12 s13 s14 s15 s16 hn
        rintro F2 S2 ⟨st, ov, op, x, nx, ac, B, hO, hS, hx0, hR, hB, hBl, hBn, s1, s2, s11, s12, s13, s14, s15, s16, s17, hn⟩
        simp [-wpP_cond, kcode_app, s1, s2, s11, s12, s13, s14, s15, s16, s17, hB]
        refine cut_of (roundM S p xt ks t i b h v L) ?_ ?_
        · by_cases hn0 : t.n = 0
          · obtain ⟨X, hX, hXx⟩ := abst_some hx0
            have hst0 : stAt st 0 = some X := by rw [show (0 : Int) = ((0 : Nat) : Int) from rfl, stAt_nat st (by omega)]; exact hX
            have hop8 : op.length ≤ 8 := by have := (hO.o.k.sub 0 X hX).tl; rw [hXx, hR.len] at this; exact this
            obtain ⟨r, T, ⟨rfl, st', hSt, hab⟩, e1⟩ := (ack18 hO.o.k 0 5 t.to).ex
            have hE : ackE (stAt st 0) 5 t.to = if t.to ∈ op then 0 else 35 := by
              rw [hst0]
              show (if (X.x.told.any fun x => decide ((5, t.to) = x)) = true then (0 : Int) else 35) = _
              rw [hXx, hR.any]
              by_cases hm : t.to ∈ op <;> simp [hm]
            rw [hE] at e1 hab
            have hOT := hO.step hSt
            have hST := hO.o.step0 hS hSt
            have gB : T.h.get B = some (.row [.int .u64 t.n, .int .u64 t.to, .bool t.cr] 0 0 false 68) := by rw [hSt.keep.h _ hBl hBn.1]; exact hB
            have hBT : B < T.next := Nat.lt_of_lt_of_le hBl hSt.keep.next
            have hBf : ¬ bookFoot b st' B := fun hf => by
              rcases hSt.foot _ hf with h1 | h1
              · exact hBn.1 h1
              · omega
            have o1 := hOT.g.1.sl
            have o2 : sLen ov = op.length := by rw [hOT.g.1.len1, natL_len]
            have ook := okW_sl hOT.g.1
            simp [hn0, s1, s2, s11, s12, s13, s14, s15, s16, s17, hB, e1, ex0]
            refine loopP_of (leftH T p xt op t.to ov (.ptr h 0 0 3) (.ptr b 0 0 17) (.int .u64 nx) (.int .u64 ac) (.int .i64 i) (.ptr B 0 0 3) (.int .i64 (if t.to ∈ op then 0 else 35))) op.length (leftH_mk 0 .nils (Sub.refl _) Gw.nil (.inl rfl) (by simp [s1]) (by simp [s2]) (by simp [s11]) (by simp [s12]) (by simp [s13]) (by simp [s14]) (by simp [s15]) (by simp [s16]) (by simp [s17]) (by simp) (by simp) (by simp) (by simp) (by simp [hn]) (Nat.zero_le _) rfl) ?_
            clear s1 s2 s11 s12 s13 s14 s15 s16 s17 hn
            rintro k2 F3 S3 hn3 ⟨j, lv, hS3, hlv, hlb, s1, s2, s11, s12, s13, s14, s15, s16, s17, s18, s19, s20, s21, hn, hj, hk2⟩
            clear hn3
            have gB3 := (hS3.h _ hBT).trans gB
            by_cases hj' : j < op.length
            · have hoj : op[j]? = some (op[j]'hj') := List.getElem?_eq_getElem hj'
              generalize op[j]'hj' = y at hoj
              have hlo := loadT_sl (cx := C0) (e := 31) (k := j) (x := .int .u64 (y : Int)) ((hOT.sub hS3).g.1) (by unfold natL; rw [List.getElem?_map, hoj]; rfl) ag31
              have hft := filter_take (P := fun n => decide (t.to < n)) hoj
              have hmt := mem_take (to := t.to) hoj
              have hw := wrap_succ (i := j) (by omega)
              have hmm : (decide (t.to ∈ op.take (j + 1))) = (decide (t.to ∈ op.take j) || decide (y = t.to)) := hmt
              obtain ⟨lv', V, e5, r1, r2, r3⟩ := app_num (op := (op.take j).filter fun n => decide (t.to < n)) y hlv (by have := List.length_filter_le (fun n => decide (t.to < n)) (op.take j); rw [List.length_take] at this; omega)
              have hV : Sub T V := ⟨fun id hid => (r2.h id (Nat.lt_of_lt_of_le hid hS3.next) (fun e => by omega)).trans (hS3.h id hid), Nat.le_trans hS3.next r2.next⟩
              have hlb' : bnd lv' = 0 ∨ T.next < bnd lv' := by
                have := hS3.next
                rcases r3 with r3 | r3 <;> omega
              have hlok := okW_sl hlv.1
              have ovk := hOT.g.1.ok
              have ovl := hlv.1.ok
              have hyq : ((y : Int) = t.to) = (y = t.to) := by simp; omega
              have hyl : ((t.to : Int) < y) = (t.to < y) := by simp
              simp [s1, s2, s11, s12, s13, s14, s15, s16, s17, s18, s19, s20, s21, hj', o1, o2]
              refine still_ok (n := 268) (by kernel_rfl) (by simp [hn]) ?_
              by_cases hlt : t.to < y
              · have hltI : (t.to : Int) < y := by omega
                have hne : ¬ y = t.to := by omega
                have hneI : ¬ (y : Int) = t.to := by omega
                cases hth : decide (t.to ∈ op.take j) with
                | true =>
                  rw [hth] at hmm s19
                  simp only [Bool.true_or] at hmm
                  simp [s1, s2, s11, s12, s13, s14, s15, s16, s17, s18, s19, s20, s21, hj', o1, o2, hlo, gB3, ook, ovk, ovl, ex0]
                  refine still_ok (n := 268) (by kernel_rfl) (by simp [hn]) ?_
                  simp [s1, s2, s11, s12, s13, s14, s15, s16, s17, s18, s19, s20, s21, hj', o1, o2, hlo, gB3, ook, ovk, ovl, hlok, hlt, hltI, e5, r1.1.cells, r1.1.np]
                  exact ⟨op.length - (j + 1), by omega, leftH_mk (j + 1) lv' hV (by rw [hft, if_pos (by rw [decide_eq_true_eq]; exact hlt)]; exact r1) hlb' (by simp [s1]) (by simp [s2]) (by simp [s11]) (by simp [s12]) (by simp [s13]) (by simp [s14]) (by simp [s15]) (by simp [s16]) (by simp [s17]) (by simp [s18]) (by simp [s19, hmm]) (by simp) (by simp [hw]) (by simp [hn]) hj' rfl⟩
                | false =>
                  rw [hth, decide_eq_false hne] at hmm
                  rw [hth] at s19
                  simp only [Bool.or_self] at hmm
                  simp [s1, s2, s11, s12, s13, s14, s15, s16, s17, s18, s19, s20, s21, hj', o1, o2, hlo, gB3, ook, ovk, ovl, ex0, hneI]
                  refine still_ok (n := 268) (by kernel_rfl) (by simp [hn]) ?_
                  simp [s1, s2, s11, s12, s13, s14, s15, s16, s17, s18, s19, s20, s21, hj', o1, o2, hlo, gB3, ook, ovk, ovl, hlok, hlt, hltI, e5, r1.1.cells, r1.1.np, hneI]
                  exact ⟨op.length - (j + 1), by omega, leftH_mk (j + 1) lv' hV (by rw [hft, if_pos (by rw [decide_eq_true_eq]; exact hlt)]; exact r1) hlb' (by simp [s1]) (by simp [s2]) (by simp [s11]) (by simp [s12]) (by simp [s13]) (by simp [s14]) (by simp [s15]) (by simp [s16]) (by simp [s17]) (by simp [s18]) (by simp [s19, hmm]) (by simp) (by simp [hw]) (by simp [hn]) hj' rfl⟩
              · have hltI : ¬ (t.to : Int) < y := by omega
                cases hth : decide (t.to ∈ op.take j) with
                | true =>
                  rw [hth] at hmm s19
                  simp only [Bool.true_or] at hmm
                  simp [s1, s2, s11, s12, s13, s14, s15, s16, s17, s18, s19, s20, s21, hj', o1, o2, hlo, gB3, ook, ovk, ovl, ex0]
                  refine still_ok (n := 268) (by kernel_rfl) (by simp [hn]) ?_
                  simp [s1, s2, s11, s12, s13, s14, s15, s16, s17, s18, s19, s20, s21, hj', o1, o2, hlo, gB3, ook, ovk, ovl, hlt, hltI]
                  exact ⟨op.length - (j + 1), by omega, leftH_mk (j + 1) lv hS3 (by rw [hft, if_neg (by rw [decide_eq_true_eq]; exact hlt)]; exact hlv) hlb (by simp [s1]) (by simp [s2]) (by simp [s11]) (by simp [s12]) (by simp [s13]) (by simp [s14]) (by simp [s15]) (by simp [s16]) (by simp [s17]) (by simp [s18]) (by simp [s19, hmm]) (by simp [s20]) (by simp [hw]) (by simp [hn]) hj' rfl⟩
                | false =>
                  rw [hth] at hmm s19
                  by_cases hne : y = t.to
                  · subst hne
                    rw [decide_eq_true rfl] at hmm
                    simp only [Bool.false_or] at hmm
                    simp [s1, s2, s11, s12, s13, s14, s15, s16, s17, s18, s19, s20, s21, hj', o1, o2, hlo, gB3, ook, ovk, ovl, ex0]
                    refine still_ok (n := 268) (by kernel_rfl) (by simp [hn]) ?_
                    simp [s1, s2, s11, s12, s13, s14, s15, s16, s17, s18, s19, s20, s21, hj', o1, o2, hlo, gB3, ook, ovk, ovl, hlt, hltI]
                    exact ⟨op.length - (j + 1), by omega, leftH_mk (j + 1) lv hS3 (by rw [hft, if_neg (by rw [decide_eq_true_eq]; exact hlt)]; exact hlv) hlb (by simp [s1]) (by simp [s2]) (by simp [s11]) (by simp [s12]) (by simp [s13]) (by simp [s14]) (by simp [s15]) (by simp [s16]) (by simp [s17]) (by simp [s18]) (by simp [s19, hmm]) (by simp [s20]) (by simp [hw]) (by simp [hn]) hj' rfl⟩
                  · have hneI : ¬ (y : Int) = t.to := by omega
                    rw [decide_eq_false hne] at hmm
                    simp only [Bool.or_self] at hmm
                    simp [s1, s2, s11, s12, s13, s14, s15, s16, s17, s18, s19, s20, s21, hj', o1, o2, hlo, gB3, ook, ovk, ovl, ex0, hneI]
                    refine still_ok (n := 268) (by kernel_rfl) (by simp [hn]) ?_
                    simp [s1, s2, s11, s12, s13, s14, s15, s16, s17, s18, s19, s20, s21, hj', o1, o2, hlo, gB3, ook, ovk, ovl, hlt, hltI, hneI]
                    exact ⟨op.length - (j + 1), by omega, leftH_mk (j + 1) lv hS3 (by rw [hft, if_neg (by rw [decide_eq_true_eq]; exact hlt)]; exact hlv) hlb (by simp [s1]) (by simp [s2]) (by simp [s11]) (by simp [s12]) (by simp [s13]) (by simp [s14]) (by simp [s15]) (by simp [s16]) (by simp [s17]) (by simp [s18]) (by simp [s19, hmm]) (by simp [s20]) (by simp [hw]) (by simp [hn]) hj' rfl⟩
            · have hje : j = op.length := by omega
              subst hje
              rw [List.take_length] at hlv s19
              have hOf := (hOT.sub hS3)
              by_cases hm : t.to ∈ op
              · rw [if_pos hm] at s18 hab
                rw [decide_eq_true hm] at s19
                have hx1 : abst st' 0 = some (ackS x 5 t.to) := by
                  rw [if_pos rfl, hst0] at hab
                  rw [hab, ← hXx]; rfl
                simp [s1, s2, s11, s12, s13, s14, s15, s16, s17, s18, s19, s20, s21, o1, o2, ook, gB3, bne_bool]
                refine roundM_mk (hOT.open_ hS3.keep hlv (by
                  rcases hlb with h | h
                  · exact .inl h
                  · exact .inr (.inr h))) (hST.trans hS3) hx1 (hR.ack hm) gB3 (Nat.lt_of_lt_of_le hBT hS3.next) ⟨hBf, hBn.2.1, by omega⟩ (by simp [s1]) (by simp [s2]) (by simp [s11]) (by simp [s12]) (by simp [s13]) (by simp) (by simp) (by simp [s16]) (by simp [s17]) (by simp [hn])
              · rw [if_neg hm] at s18 hab
                rw [decide_eq_false hm] at s19
                have hx1 : abst st' 0 = some x := by
                  rw [if_neg (by decide)] at hab
                  rw [hab]; exact hx0
                simp [s1, s2, s11, s12, s13, s14, s15, s16, s17, s18, s19, s20, s21, o1, o2, ook, gB3, bne_bool]
                exact roundM_mk hOf (hST.trans hS3) hx1 hR gB3 (Nat.lt_of_lt_of_le hBT hS3.next) ⟨hBf, hBn.2⟩ (by simp [s1]) (by simp [s2]) (by simp [s11]) (by simp [s12]) (by simp [s13]) (by simp [s14]) (by simp [s15]) (by simp [s16]) (by simp [s17]) (by simp [hn])
          · simp [hn0]
            exact roundM_mk hO hS hx0 hR hB hBl hBn (by simp [s1]) (by simp [s2]) (by simp [s11]) (by simp [s12]) (by simp [s13]) (by simp [s14]) (by simp [s15]) (by simp [s16]) (by simp [s17]) (by simp [hn])
        clear hO hS hx0 hR hB hBl hBn s1 s2 s11 s12 s13 s14 s15 s16 s17 hn
        rintro F2 S2 ⟨st, ov, op, x, nx, ac, B, hO, hS, hx0, hR, hB, hBl, hBn, s1, s2, s11, s12, s13, s14, s15, s16, s17, hn⟩
        obtain ⟨r, T1, ⟨d, sd, is, rfl, hdu, hdb, hT1, hd1, hd2, hd3⟩, e1⟩ := (item_of hO.o.hh t.n).ex
        have hT1n := hT1.next
        have gB1 := (hT1.h _ hBl).trans hB
        have nB1 : ¬ B = T1.next := by omega
        have nB2 : ¬ B = T1.next + 1 := by omega
        have nB3 : ¬ B = S2.next := by omega
        have dok := okW_sl hdu.sl
        have dce := hdu.sl.cells
        simp [-wpP_cond, kcode_app, s1, s2, s11, s12, s13, s14, s15, s16, s17, hB, gB1, e1, ex0, dok, dce, hdu.sl.np, nB1, nB2]
        refine draws [.r 0 1, .p, .p, .r 0 2, .p, .r 0 2, .e [], .e [], .p, .p] (n := 268) (by kernel_rfl) (by simp [hn]) ?_
        simp [-wpP_cond, kcode_app, s1, s2, s11, s12, s13, s14, s15, s16, s17, hB, gB1, e1, ex0, dok, dce, hdu.sl.np, nB1, nB2, bld48i hdu.sl]
        refine ⟨by rcases hdu.sl.cases with h | ⟨_, _, _, _, _, _, h⟩ <;> rw [h], ?_⟩
        generalize hW2 : (AS.mk ((((T1.h.set T1.next (.row [.int .u64 0, .int .u64 0, .str [], .nils] 0 0 false 42)).set T1.next (.row [.int .u64 d.n, .int .u64 d.time, .str d.key, d.u] 0 0 false 42)).set (T1.next + 1) (.row [.int .u64 0, .int .u64 0, .str [], .nils, .int .u64 0, .int .u64 0] 0 0 false 48)).set (T1.next + 1) (.row [.int .u64 d.n, .int .u64 d.time, .str d.key, d.u, .int .u64 0, .int .u64 0] 0 0 false 48)) (T1.next + 2)) = W2
        have w2 : Sub T1 W2 := by
          subst hW2
          refine ⟨fun id hid => ?_, by show T1.next ≤ T1.next + 2; omega⟩
          simp only [get_set_ne _ _ (show id ≠ T1.next by omega), get_set_ne _ _ (show id ≠ T1.next + 1 by omega)]
        have w2n : W2.next = T1.next + 2 := by subst hW2; rfl
        have w13 : W2.h.get (T1.next + 1) = some (.row [.int .u64 d.n, .int .u64 d.time, .str d.key, d.u, .int .u64 0, .int .u64 0] 0 0 false 48) := by
          subst hW2
          exact get_set_same _ _ _
        clear hW2
        have hSW := hT1.trans w2
        have hOW := hO.sub hSW
        have gBW := (w2.h _ (Nat.lt_of_lt_of_le hBl hT1n)).trans gB1
        have hno1 : ∀ id, S2.next ≤ id → ¬ bookFoot b st id := fun id h1 h2 => by have := hO.o.k.foot h2; omega
        have hno2 : ∀ id, S2.next ≤ id → ¬ histFoot h v L id := fun id h1 h2 => by have := hO.o.hh.foot h2; omega
        refine cut_of (dlvM S p xt ks t i b h v L) ?_ ?_
        · by_cases hto : 0 < t.to
          · simp [hto]
            refine draws [.p, .r 0 0, .p, .r 0 0, .p, .p, .p, .r 0 1, .e [], .p] (n := 268) (by kernel_rfl) (by simp [hn]) ?_
            have hto' : ¬ t.to = 0 := by omega
            simp [s17, gBW, w13, bld46', bld48', nB2]
            have hW3 : Sub S2 ⟨W2.h.set (T1.next + 1) (.row [.int .u64 0, .int .u64 0, .str [], .nils, .int .u64 t.n, .int .u64 t.to] 0 0 false 48), W2.next⟩ := ⟨fun id hid => by show (W2.h.set _ _).get id = _; rw [get_set_ne _ _ (by omega)]; exact hSW.h id hid, hSW.next⟩
            exact dlvM_mk (d := gapD t.n t.to) (hO.sub hW3) (hS.trans hW3) hx0 hR (by show (W2.h.set _ _).get _ = _; rw [get_set_ne _ _ nB2]; exact gBW) (by show B < W2.next; omega) hBn ⟨get_set_same _ _ _, by show T1.next + 1 < W2.next; omega, hno1 _ (by omega), hno2 _ (by omega)⟩ ⟨atts_nil, fun id e => by simp [gapD, bnd] at e⟩ (.inr ⟨hto, rfl, rfl⟩)
              (by simp [s1]) (by simp [s2]) (by simp [s11]) (by simp [s12]) (by simp [s13]) (by simp [s14]) (by simp [s15]) (by simp [s16]) (by simp [s17]) (by simp) (by simp) (by simp) (by simp [hn])
          · have hto0 : t.to = 0 := by omega
            simp [hto]
            exact dlvM_mk hOW (hS.trans hSW) hx0 hR gBW (by omega) hBn ⟨by rw [w13]; simp [encD, hd1, hd2], by omega, hno1 _ (by omega), hno2 _ (by omega)⟩ ⟨hdu.sub w2, fun id e => ⟨hno1 id (by omega), hno2 id (by omega)⟩⟩
              (.inl ⟨hto0, rfl, hd1, hd2, by
                rcases hd3 with h | ⟨k, h1, h2, h3, _⟩
                · exact .inl h
                · exact .inr ⟨k, h1, h2, h3⟩⟩) (by simp [s1]) (by simp [s2]) (by simp [s11]) (by simp [s12]) (by simp [s13]) (by simp [s14]) (by simp [s15]) (by simp [s16]) (by simp [s17]) (by simp) (by simp) (by simp) (by simp [hn])
        clear hno1 hno2 gBW hOW hSW w13 w2n w2 W2 dce dok nB3 nB2 nB1 gB1 hT1n e1 hd3 hd2 hd1 hT1 hdb hdu is sd d hBn hBl hB hR hx0 hS hO s1 s2 s11 s12 s13 s14 s15 s16 s17 hn
        rintro F3 S3 ⟨st, ov, op, x, nx, ac, B, B2, to, d, hO, hS, hx0, hR, hB, hBl, hBn, hD, hdu, hTr, s1, s2, s11, s12, s13, s14, s15, s16, s17, s25, s26, s27, hn⟩
        have hD1 := hD.1
        simp only [encD] at hD1
        have hwi := wrap_succ (i := i) (by omega)
        by_cases hn0 : t.n = 0
        · simp [kcode_app, s1, s2, s11, s12, s13, s14, s15, s16, s17, s25, s26, s27, hB, hn0]
          exact ⟨tl.length - (i + 1), by omega, onceH_mk (i := i + 1) hO hS hx0 hR (by simp [s1]) (by simp [s2]) (by simp [s11]) (by simp [s12]) (by simp [s13]) (by simp [s14]) (by simp [s15]) (by simp [hwi]) (by simp [hn]) hi' rfl⟩
        · obtain ⟨r, T4, ⟨rfl, hT4⟩, e1⟩ := (fits16 hO.o.k hO.o.hh 0 5 d hdu.1).ex
          simp only [encD] at e1
          have duk := okW_sl hdu.1.sl
          have duc := hdu.1.sl.cells
          by_cases hf : fitsV (stAt st 0) L L.length 5 d = 0
          · obtain ⟨X, hst, hfm, hrt, hnx, hany, h8, _, _⟩ := fits0 hf
            have hXx : X.x = x := by
              have : stAt st 0 = st 0 := stAt_nat st (n := 0) (by omega)
              rw [this] at hst
              have h2 := hx0
              unfold abst at h2
              rw [hst] at h2
              cases h2; rfl
            rw [hXx] at hrt hnx hany h8
            rw [hR.len] at h8
            rw [hR.next] at hnx hany
            obtain ⟨hsF, hsT⟩ := hTr.span hfm (by omega)
            rw [hsF] at hnx hany
            have hsp := spanF_pos hfm
            rw [hsF, hsT] at hsp
            have hto := right_to hrt
            rw [hsT] at hto
            have hLl := hO.o.hh.le
            obtain ⟨r, T5, ⟨X', st2, hX', ho5, ha5, hk5, hf5⟩, e2⟩ := ((hO.o.sub hT4).tellf 0 5 d (hdu.1.sub hT4) hf).ex
            rw [hst] at hX'
            cases hX'
            have htt := goneL_turned false L d
            have hO5 := (hO.sub hT4).told ho5 hk5 hf5 htt
            have hS5' : Sub S T5 := (hO.o.sub hT4).keep0 (hS.trans hT4) hk5
            have hx5 : abst st2 0 = some (tellS x 5 to) := by rw [ha5, hXx, hsT]; rfl
            have hR5 := hR.tell to
            have gB5 : T5.h.get B = some (.row [.int .u64 t.n, .int .u64 t.to, .bool t.cr] 0 0 false 68) := by
              rw [hk5.h _ (Nat.lt_of_lt_of_le hBl hT4.next) (fun h => by
                rcases h with h | h
                · exact hBn.1 h
                · exact hBn.2.1 h), hT4.h _ hBl]
              exact hB
            have gD4 : T4.h.get B2 = some (.row [.int .u64 d.n, .int .u64 d.time, .str d.key, d.u, .int .u64 d.fr, .int .u64 d.to] 0 0 false 48) := by rw [hT4.h _ hD.2.1]; exact hD1
            have hBl5 : B < T5.next := Nat.lt_of_lt_of_le (Nat.lt_of_lt_of_le hBl hT4.next) hk5.next
            simp only [encD] at e2
            rw [hf] at e1
            have o2 : sLen ov = op.length := by rw [hO5.g.1.len1, natL_len]
            have o1 := hO5.g.1.sl
            have ook := okW_sl hO5.g.1
            have e26 := fun Q => durable26 hO5.o.hh (Q := Q)
            have q1 : ¬ ((t.n : Int) < nx) := by omega
            have q2 : ¬ ((to : Int) < t.n) := by omega
            have q3 : ¬ ((L.length : Int) < to) := by omega
            have q4 : ¬ ((8 : Int) ≤ op.length) := by omega
            simp [kcode_app, s1, s2, s11, s12, s13, s14, s15, s16, s17, s25, s26, s27, hB, hn0, hD1, e1, ex0, duk, gD4, e2, e26, q1, q2, q3, q4, o1, o2, ook]
            have hnx1 := (hR.lt hO.o.k hx0).1
            have hL5 : (goneL L d).length = L.length := htt.1
            have hcs : x.cs = ks.map bare := hR.cs
            refine loopP_of (numI T5 p xt (.ptr h 0 0 3) (.ptr b 0 0 17) (.int .u64 nx) (.int .u64 ac) ov (.int .i64 i) (.ptr B 0 0 3) (.int .u64 t.n) (.int .u64 to) 28 nx t.n) (t.n - nx) (numI_mk nx (Sub.refl _) (by simp [s1]) (by simp [s2]) (by simp [s11]) (by simp [s12]) (by simp [s13]) (by simp [s14]) (by simp [s15]) (by simp [s16]) (by simp [s17]) (by simp [s26]) (by simp [s27]) (by simp) (by simp [hn]) (Nat.le_refl _) hnx rfl) ?_
            clear s1 s2 s11 s12 s13 s14 s15 s16 s17 s25 s26 s27 hn e1 e2 e26
            rintro k2 F4 S6 hn3 ⟨n, hS6, s1, s2, s11, s12, s13, s14, s15, s16, s17, s26, s27, s28, hn, hn1, hn2, hk2⟩
            clear hn3
            by_cases hnl : n < t.n
            · obtain ⟨m', rfl⟩ : ∃ m', n = m' + 1 := ⟨n - 1, by omega⟩
              have hkk : (goneL L d)[m']? = some ((goneL L d)[m']'(by omega)) := List.getElem?_eq_getElem _
              generalize (goneL L d)[m']'(by omega) = kk at hkk
              obtain ⟨r, T7, ⟨u', rfl, hu', _, hT7⟩, e3⟩ := (item_yes (hO5.o.hh.sub hS6) hkk).ex
              have hA : Sub T7 ⟨(T7.h.set T7.next (.row [.int .u64 0, .int .u64 0, .str [], .nils] 0 0 false 42)).set T7.next (.row [.int .u64 ((m' + 1 : Nat) : Int), .int .u64 kk.time, .str kk.key, u'] 0 0 false 42), T7.next + 1⟩ := sub1s
              have hmm : matchB ks kk.atts = false := by
                have h1 := anyM_off hany hn1 hnl
                rw [← matchAt_turned htt] at h1
                unfold matchAt at h1
                rw [show m' + 1 - 1 = m' by omega, hkk, hcs] at h1
                simp only at h1
                rw [matchB_bare] at h1
                exact h1
              obtain ⟨r, T8, ⟨rfl, hT8⟩, e4⟩ := (matches_ (key := kk.key) (hp.sub (((hS5'.trans hS6).trans hT7).trans hA)) (hu'.sub hA)).ex
              rw [hmm] at e4
              have hw := u64_succ (n := m' + 1) (by omega)
              have hku := hu'.sl.cells
              have hpo := okW_sl hp.sl
              simp at e3 hw e4
              have q5 : ((m' : Int) + 1 < t.n) := by omega
              simp [s1, s2, s11, s12, s13, s14, s15, s16, s17, s26, s27, s28, q5, e3, e4, ex0, hku, hpo, okW_sl hu'.sl, hu'.sl.np]
              exact ⟨t.n - (m' + 1 + 1), by omega, numI_mk (m' + 1 + 1) (((hS6.trans hT7).trans hA).trans hT8) (by simp [s1]) (by simp [s2]) (by simp [s11]) (by simp [s12]) (by simp [s13]) (by simp [s14]) (by simp [s15]) (by simp [s16]) (by simp [s17]) (by simp [s26]) (by simp [s27]) (by simp [hw]; omega) (by simp [hn]) (by omega) hnl rfl⟩
            · have hne : n = t.n := by omega
              have q5 : ¬ ((n : Int) < t.n) := by omega
              simp [s1, s2, s11, s12, s13, s14, s15, s16, s17, s26, s27, s28, q5]
              refine loopP_of (numI T5 p xt (.ptr h 0 0 3) (.ptr b 0 0 17) (.int .u64 nx) (.int .u64 ac) ov (.int .i64 i) (.ptr B 0 0 3) (.int .u64 t.n) (.int .u64 to) 32 t.n (to + 1)) (to + 1 - t.n) (numI_mk t.n hS6 (by simp [s1]) (by simp [s2]) (by simp [s11]) (by simp [s12]) (by simp [s13]) (by simp [s14]) (by simp [s15]) (by simp [s16]) (by simp [s17]) (by simp [s26]) (by simp [s27]) (by simp) (by simp [hn]) (Nat.le_refl _) (by omega) rfl) ?_
              clear s1 s2 s11 s12 s13 s14 s15 s16 s17 s26 s27 s28 hn hS6 hne q5 hn1 hn2 hk2 hnl
              rintro k2 F4 S7 hn3 ⟨n, hS7, s1, s2, s11, s12, s13, s14, s15, s16, s17, s26, s27, s32, hn, hn1, hn2, hk2⟩
              clear hn3
              have gB7 := (hS7.h _ hBl5).trans gB5
              by_cases hnl : n ≤ to
              · obtain ⟨m', rfl⟩ : ∃ m', n = m' + 1 := ⟨n - 1, by omega⟩
                have hkk : (goneL L d)[m']? = some ((goneL L d)[m']'(by omega)) := List.getElem?_eq_getElem _
                generalize (goneL L d)[m']'(by omega) = kk at hkk
                obtain ⟨r, T7, ⟨u', rfl, hu', _, hT7⟩, e3⟩ := (item_yes (hO5.o.hh.sub hS7) hkk).ex
                have hA : Sub T7 ⟨(T7.h.set T7.next (.row [.int .u64 0, .int .u64 0, .str [], .nils] 0 0 false 42)).set T7.next (.row [.int .u64 ((m' + 1 : Nat) : Int), .int .u64 kk.time, .str kk.key, u'] 0 0 false 42), T7.next + 1⟩ := sub1s
                have hst7 := hTr.state (cs := x.cs) hfm hrt (by omega) hn1 hnl (by rw [show m' + 1 - 1 = m' by omega]; exact hkk)
                obtain ⟨r, T8, ⟨rfl, hT8⟩, e4⟩ := (matches_ (key := kk.key) (hp.sub (((hS5'.trans hS7).trans hT7).trans hA)) (hu'.sub hA)).ex
                have hw := u64_succ (n := m' + 1) (by omega)
                have hku := hu'.sl.cells
                have hpo := okW_sl hp.sl
                simp at e3 hw e4
                have q5 : ((m' : Int) + 1 ≤ to) := by omega
                have gBT := (hT7.h _ (Nat.lt_of_lt_of_le hBl5 hS7.next)).trans gB7
                have nB : ¬ B = T7.next := by have := hS7.next; have := hT7.next; omega
                by_cases hto0 : t.to = 0
                · have hmm : matchB ks kk.atts = true := by
                    have h1 := hst7.2 hto0
                    rw [hcs, matchB_bare] at h1
                    exact h1
                  rw [hmm] at e4
                  simp [s1, s2, s11, s12, s13, s14, s15, s16, s17, s26, s27, s32, q5, e3, e4, ex0, hku, hpo, okW_sl hu'.sl, hu'.sl.np, gBT, nB, hto0]
                  exact ⟨to + 1 - (m' + 1 + 1), by omega, numI_mk (m' + 1 + 1) (((hS7.trans hT7).trans hA).trans hT8) (by simp [s1]) (by simp [s2]) (by simp [s11]) (by simp [s12]) (by simp [s13]) (by simp [s14]) (by simp [s15]) (by simp [s16]) (by simp [s17]) (by simp [s26]) (by simp [s27]) (by simp [hw]; omega) (by simp [hn]) (by omega) (by omega) rfl⟩
                · have hgt : 0 < t.to := by omega
                  have hks := hst7.1 hgt
                  simp [s1, s2, s11, s12, s13, s14, s15, s16, s17, s26, s27, s32, q5, e3, ex0, hku, hpo, okW_sl hu'.sl, hu'.sl.np, gBT, nB, hto0, hgt, hks]
                  exact ⟨to + 1 - (m' + 1 + 1), by omega, numI_mk (m' + 1 + 1) ((hS7.trans hT7).trans hA) (by simp [s1]) (by simp [s2]) (by simp [s11]) (by simp [s12]) (by simp [s13]) (by simp [s14]) (by simp [s15]) (by simp [s16]) (by simp [s17]) (by simp [s26]) (by simp [s27]) (by simp [hw]; omega) (by simp [hn]) (by omega) (by omega) rfl⟩
              · have q5 : ¬ ((n : Int) ≤ to) := by omega
                have hO7 := hO5.sub hS7
                obtain ⟨ov', T9, e5, r1, r2, r3⟩ := app_num to hO7.g (by omega)
                have hO9 := hO7.open_ r2 r1 (by
                  rcases r3 with h | h
                  · exact .inr (.inl h)
                  · exact .inr (.inr h))
                have hS9 := hO7.open0 (hS5'.trans hS7) r2
                have hw := u64_succ (n := to) (by omega)
                obtain ⟨r, T10, ⟨rfl, hT10⟩, e6⟩ := (nextOf23 hO9.o.k 0 5).ex
                have hst2 : stAt st2 0 = st2 0 := stAt_nat st2 (n := 0) (by omega)
                obtain ⟨X2, hX2, hX2x⟩ := abst_some hx5
                have hnv : nextV (stAt st2 0) 5 = to + 1 := by
                  rw [hst2, hX2]
                  show nextN X2.x 5 = _
                  rw [hX2x, nextN_tell]
                have hrv : roomV (stAt st2 0) = 8 - ((op.length : Int) + 1) := by
                  rw [hst2, hX2]
                  show 8 - (X2.x.told.length : Int) = _
                  rw [hX2x, hR5.len, List.length_append]
                  simp
                rw [hnv] at e6
                have e7 := fun Q => room19 (hO9.sub hT10).o.k 0 (Q := Q)
                rw [hrv] at e7
                have hw8 : IntKind.i64.wrap (8 - ((op.length : Int) + 1)) = 8 - ((op.length : Int) + 1) := IntWalk.i64_in _ (by omega)
                have p1 := r1.1.sl
                have p2 : sLen ov' = op.length + 1 := by rw [r1.1.len1, natL_len, List.length_append]; rfl
                simp at e6
                simp [s1, s2, s11, s12, s13, s14, s15, s16, s17, s26, s27, s32, q5, e5, e6, e7, ex0, hw, r1.1.cells, r1.1.np, okW_sl r1.1, p1, p2, hw8, ook]
                exact ⟨tl.length - (i + 1), by omega, onceH_mk (i := i + 1) (L := goneL L d) (by rw [hL5]; exact hO9.sub hT10) (hS9.trans hT10) hx5 hR5 (by simp [s1]) (by simp [s2]) (by simp [s11]) (by simp [s12]) (by simp) (by simp [s14]) (by simp) (by simp [s16, hwi]) (by simp [hn]) hi' rfl⟩
          · simp [kcode_app, s1, s2, s11, s12, s13, s14, s15, s16, s17, s25, s26, s27, hB, hn0, hD1, e1, ex0, hf, duk]
            exact ⟨tl.length - (i + 1), by omega, onceH_mk (i := i + 1) (hO.sub hT4) (hS.trans hT4) hx0 hR (by simp [s1]) (by simp [s2]) (by simp [s11]) (by simp [s12]) (by simp [s13]) (by simp [s14]) (by simp [s15]) (by simp [hwi]) (by simp [hn]) hi' rfl⟩
      · simp [s1, s2, s11, s12, s13, s14, s15, s16, v1, v2, hi', h80, d12, ex0]
    · simp [s1, s2, s11, s12, s13, s14, s15, s16, v1, v2, hi', d12, ex0]
end Go.Proofs.YtedonhemfhfbaaaGreat.mod
