/-
  ModelAll: what fits, in plain terms.
  ModelAll: the law.
-/
import Derived.Test.YtedonhemfhfbaaaGreatPartI
namespace Go.Proofs.YtedonhemfhfbaaaGreat.mod
open Go Go.Am
set_option linter.unusedVariables false
set_option linter.unusedSimpArgs false

theorem nextN_tell (x : SubS) (pub : Int) (to : Nat) : nextN (tellS x pub to) pub = to + 1 := by
  unfold nextN tellS
  simp [nget_nput]
theorem nextN_ack (x : SubS) (pub : Int) (n m : Nat) (h : nget x.next pub = some m) : nextN (ackS x pub n) pub = m := by
  unfold nextN ackS
  simp [h]
theorem nget_tell (x : SubS) (pub : Int) (to : Nat) : nget (tellS x pub to).next pub = some (to + 1) := by
  unfold tellS
  simp [nget_nput]
def itemD (i : Nat) (k : Kept) (u : AV) : Dlv := ⟨i + 1, k.time, k.key, u, k.atts, 0, 0⟩
def gapD (fr to : Nat) : Dlv := ⟨0, 0, [], .nils, [], fr, to⟩
theorem itemD_gap (i : Nat) (k : Kept) (u : AV) : (itemD i k u).gap = false := rfl
theorem itemD_spanF (i : Nat) (k : Kept) (u : AV) : spanF (itemD i k u) = i + 1 := rfl
theorem itemD_spanT (i : Nat) (k : Kept) (u : AV) : spanT (itemD i k u) = i + 1 := rfl
theorem itemD_formed (i : Nat) (k : Kept) (u : AV) : formedB (itemD i k u) = true := by
  unfold formedB
  rw [itemD_gap]
  simp [itemD]
theorem itemD_right {L : List Kept} {dur i : Nat} {k : Kept} {cs : List Con} (u : AV) (hk : L[i]? = some k) (hd : i < dur) : rightB L dur cs (itemD i k u) = matchB cs k.atts := by
  unfold rightB
  rw [itemD_gap, itemD_spanT]
  have h1 : i + 1 ≤ dur := hd
  simp [itemD, hk, h1]
theorem gapD_gap {fr to : Nat} (h : 1 ≤ fr) : (gapD fr to).gap = true := by
  unfold Dlv.gap gapD
  have : ¬ fr = 0 := by omega
  simp [this]
theorem gapD_formed {fr to : Nat} (h : 1 ≤ fr) (h2 : fr ≤ to) : formedB (gapD fr to) = true := by
  unfold formedB
  rw [gapD_gap h]
  simp [gapD, h, h2]
theorem gapD_spanF {fr to : Nat} (h : 1 ≤ fr) : spanF (gapD fr to) = fr := by
  unfold spanF
  rw [gapD_gap h]
  rfl
theorem gapD_spanT {fr to : Nat} (h : 1 ≤ fr) : spanT (gapD fr to) = to := by
  unfold spanT
  rw [gapD_gap h]
  rfl
theorem one_take {α : Type} {L : List α} {i : Nat} {k : α} (hk : L[i]? = some k) : (L.drop i).take 1 = [k] := by
  obtain ⟨hi, rfl⟩ := List.getElem?_eq_some_iff.1 hk
  rw [List.drop_eq_getElem_cons hi]
  rfl
theorem gapD_right {L : List Kept} {dur i : Nat} {k : Kept} {cs : List Con} (hk : L[i]? = some k) (hd : i < dur) : rightB L dur cs (gapD (i + 1) (i + 1)) = !decide (k.state = 0) := by
  unfold rightB
  rw [gapD_gap (by omega), gapD_spanT (by omega)]
  have h1 : i + 1 ≤ dur := hd
  have h2 : i + 1 - (i + 1 - 1) = 1 := by omega
  simp [gapD, one_take hk, h1]
theorem fits_yes {L : List Kept} {dur : Nat} {x : SubS} {d : Dlv} (hf : formedB d = true) (hr : rightB L dur x.cs d = true) (h1 : nextN x 9 ≤ spanF d) (h2 : ∀ j, nextN x 9 ≤ j → j < spanF d → matchAt L x.cs j = false) (h3 : x.told = []) : fitsN L dur x 9 d = 0 := by
  unfold fitsN
  rw [hf, hr, anyM_false h2, h3]
  have : ¬ spanF d < nextN x 9 := by omega
  simp [this]
theorem fits_wrong {L : List Kept} {dur : Nat} {x : SubS} {d : Dlv} (hf : formedB d = true) (hr : rightB L dur x.cs d = false) : fitsN L dur x 9 d = 2 := by
  unfold fitsN
  rw [hf, hr]
  simp
theorem fits_late {L : List Kept} {dur : Nat} {x : SubS} {d : Dlv} (hf : formedB d = true) (hr : rightB L dur x.cs d = true) (h1 : spanF d < nextN x 9) : fitsN L dur x 9 d = 3 := by
  unfold fitsN
  rw [hf, hr]
  simp [h1]
theorem matchAt_turned {D : Bool} {L L' : List Kept} (ht : Turned D L L') (cs : List Con) (n : Nat) : matchAt L' cs n = matchAt L cs n := by
  unfold matchAt
  cases h : L[n - 1]? with
  | none =>
    have : L'[n - 1]? = none := by rw [List.getElem?_eq_none_iff] at h ⊢; rw [ht.1]; exact h
    rw [this]
  | some k =>
    obtain ⟨s, e, _⟩ := ht.2 _ k h
    rw [e]
theorem abst_some {st : Nat → Option SubX} {i : Nat} {x : SubS} (h : abst st i = some x) : ∃ X, st i = some X ∧ X.x = x := by
  unfold abst at h
  cases hs : st i with
  | none => rw [hs] at h; cases h
  | some X => rw [hs] at h; cases h; exact ⟨X, rfl, rfl⟩
theorem states_turned {L L' : List Kept} (ht : Turned false L L') (h : ∀ k, k ∈ L → k.state = 0 ∨ k.state = 1) : ∀ k, k ∈ L' → k.state = 0 ∨ k.state = 1 := fun k hk => by
  obtain ⟨i, hi⟩ := List.mem_iff_getElem?.1 hk
  have hil : i < L.length := by rw [← ht.1]; exact (List.getElem?_eq_some_iff.1 hi).1
  obtain ⟨s, e3, h3⟩ := ht.2 i _ (List.getElem?_eq_getElem hil)
  rw [hi] at e3
  cases e3
  rcases h3 with h3 | h3 | h3
  · have := h L[i] (List.getElem_mem hil)
    simp only
    rw [h3]; exact this
  · exact .inr h3
  · cases h3.2.2
theorem told_nil (x : SubS) (h : x.told = []) (n : Nat) : (ackS (tellS x 9 n) 9 n).told = [] := by
  simp only [ackS, tellS, h, List.nil_append]
  unfold keepF ackP
  simp
theorem keep_all (n : Nat) : keepF (ackP 9 n) [((9 : Int), n)] = [] := by
  unfold keepF ackP
  simp
/-- A delivery that fits: it is told, it is late then, it is acknowledged. -/
theorem told_round {S R : AS} {b h : Nat} {st : Nat → Option SubX} {v : AV} {L : List Kept} {dur : Nat} {x : SubS} {d : Dlv} {B : Nat} (o : OneAt S R.next b h st v L dur) (hR : Sub R S) (hx : abst st 3 = some x) (hd : AttsAt S d.u d.atts) (hB : S.h.get B = some (.row (encD d) 0 0 false 48)) (hBl : B < S.next)
    (hB1 : ¬ bookFoot b st B) (hB2 : ¬ histFoot h v L B) (hu : bnd d.u = 0 ∨ R.next < bnd d.u ∧ ∀ id, bnd d.u = id + 1 → ¬ bookFoot b st id ∧ ¬ histFoot h v L id) (hfit : fitsN L dur x 9 d = 0) (ht : x.told = []) (hf : formedB d = true) (hr : rightB (goneL L d) dur x.cs d = true) (hs : spanF d = spanT d) :
    ∃ (r : AV) (T1 T2 T3 T4 : AS) (st' : Nat → Option SubX), (∀ Q, CallW C0 16 [.ptr b 0 0 17, .int .i64 3, .int .i64 9, .agg (encD d), .ptr h 0 0 3] S Q = Q (.int .i64 0) T1) ∧ T1.h.get B = some (.row (encD d) 0 0 false 48) ∧
      (∀ Q, CallW C0 17 [.ptr b 0 0 17, .int .i64 3, .int .i64 9, .agg (encD d), .ptr h 0 0 3] T1 Q = Q r T2) ∧ T2.h.get B = some (.row (encD d) 0 0 false 48) ∧
      (∀ Q, CallW C0 16 [.ptr b 0 0 17, .int .i64 3, .int .i64 9, .agg (encD d), .ptr h 0 0 3] T2 Q = Q (.int .i64 3) T3) ∧ (∀ Q, CallW C0 18 [.ptr b 0 0 17, .int .i64 3, .int .i64 9, .int .u64 (spanT d : Nat)] T3 Q = Q (.int .i64 0) T4) ∧
      (∀ Q, CallW C0 19 [.ptr b 0 0 17, .int .i64 3] T4 Q = Q (.int .i64 8) T4) ∧ OneAt T4 R.next b h st' v (goneL L d) dur ∧ Sub R T4 ∧ abst st' 3 = some (ackS (tellS x 9 (spanT d)) 9 (spanT d)) := by
  obtain ⟨X, hX, rfl⟩ := abst_some hx
  have hst : stAt st 3 = some X := by rw [show (3 : Int) = ((3 : Nat) : Int) from rfl, stAt_nat st (by omega)]; exact hX
  have hfv : fitsV (stAt st 3) L dur 9 d = 0 := by rw [hst]; exact hfit
  obtain ⟨r, T1, ⟨rfl, h1⟩, e1⟩ := (fits16 o.k o.hh 3 9 d hd).ex
  have o1 := o.sub h1
  obtain ⟨r, T2, ⟨X', st2, hX', o2, ha2, hk2⟩, e2⟩ := (o1.tell 3 9 d (hd.sub h1) hfv).ex
  rw [hst] at hX'
  cases hX'
  have hd2 : AttsAt T2 d.u d.atts := ⟨(hd.sub h1).sl.agree (fun id e => hk2.h id (by have := (hd.sub h1).sl.old; omega) (fun hf => by
    rcases hu with hu | hu
    · omega
    · have := hu.2 id e
      rcases hf with hf | hf
      · exact this.1 hf
      · exact this.2 hf)) hk2.next, hd.le⟩
  have hx2 : abst st2 3 = some (tellS X.x 9 (spanT d)) := by rw [ha2]; rfl
  obtain ⟨X2, hX2, hx2'⟩ := abst_some hx2
  have hst2 : stAt st2 3 = some X2 := by rw [show (3 : Int) = ((3 : Nat) : Int) from rfl, stAt_nat st2 (by omega)]; exact hX2
  have hf2 : fitsV (stAt st2 3) (goneL L d) dur 9 d = 3 := by
    rw [hst2]
    show fitsN _ _ X2.x 9 d = 3
    rw [hx2']
    exact fits_late hf hr (by rw [nextN_tell, hs]; exact Nat.lt_succ_self _)
  obtain ⟨r3, T3, ⟨rfl, h3⟩, e3⟩ := (fits16 o2.k o2.hh 3 9 d hd2).ex
  have o3 := o2.sub h3
  obtain ⟨r4, T4, ⟨rfl, st4, hs4, ha4⟩, e4⟩ := (ack18 o3.k 3 9 (spanT d)).ex
  have hta : ackE (stAt st2 3) 9 (spanT d) = 0 := by
    rw [hst2]
    unfold ackE
    simp only [hx2']
    simp [tellS, ht]
  have o4 := o3.step hs4
  rw [hta] at ha4 e4
  have hx4 : abst st4 3 = some (ackS (tellS X.x 9 (spanT d)) 9 (spanT d)) := by
    rw [if_pos rfl, hst2] at ha4
    rw [ha4, ← hx2']; rfl
  obtain ⟨X4, hX4, hx4'⟩ := abst_some hx4
  have hst4 : stAt st4 3 = some X4 := by rw [show (3 : Int) = ((3 : Nat) : Int) from rfl, stAt_nat st4 (by omega)]; exact hX4
  rw [hfv] at e1
  rw [hf2] at e3
  have hroom : roomV (stAt st4 3) = 8 := by
    rw [hst4]
    unfold roomV
    simp only [hx4', ackS, tellS, ht, List.nil_append, keep_all]
    rfl
  have hS2 := o1.keep0 (hR.trans h1) hk2
  refine ⟨r, T1, T2, T3, T4, st4, e1, (by rw [h1.h _ hBl]; exact hB), e2, ?_, e3, e4, (fun Q => by rw [room19 o4.k 3, hroom]), o4, o3.step0 (hS2.trans h3) hs4, hx4⟩
  rw [hk2.h _ (Nat.lt_of_lt_of_le hBl h1.next) (fun hf => by
    rcases hf with hf | hf
    · exact hB1 hf
    · exact hB2 hf), h1.h _ hBl]
  exact hB
end Go.Proofs.YtedonhemfhfbaaaGreat.mod

namespace Go.Proofs.YtedonhemfhfbaaaGreat.mod
open Go Go.Am
set_option linter.unusedVariables false
set_option linter.unusedSimpArgs false

theorem nt3 : Tryz.f3.ntmps = 91 := by kernel_rfl
theorem bld30 (n : Int) : buildA C0 30 [(2, .int .i64 n)] = some (.agg [.int .i64 0, .int .i64 0, .int .i64 n]) := by kernel_rfl
theorem bld46 (a b : Int) : buildA C0 46 [(0, .int .u64 a), (1, .int .u64 b)] = some (.agg [.int .u64 a, .int .u64 b]) := by kernel_rfl
theorem bld48g (a b : Int) : buildA C0 48 [(1, .agg [.int .u64 a, .int .u64 b])] = some (.agg [.int .u64 0, .int .u64 0, .str [], .nils, .int .u64 a, .int .u64 b]) := by kernel_rfl
def allH (S : AS) (p : AV) (ks : List Con) (k : Nat) (F' : Fr) (S' : AS) : Prop :=
  ∃ (i b h : Nat) (v : AV) (st : Nat → Option SubX) (L : List Kept) (x : SubS), OneAt S' S.next b h st v L L.length ∧ Sub S S' ∧ abst st 3 = some x ∧ x.cs = ks.map bare ∧ x.told = [] ∧ nextN x 9 ≤ i + 1 ∧ (∀ j, nextN x 9 ≤ j → j < i + 1 → matchAt L x.cs j = false) ∧ (∀ k, k ∈ L → k.state = 0 ∨ k.state = 1) ∧
    L.length ≤ 30 ∧ sl F' 1 = p ∧ sl F' 7 = .ptr h 0 0 3 ∧ sl F' 8 = .ptr b 0 0 17 ∧ sl F' 9 = .int .u64 ((i : Int) + 1) ∧ i ≤ L.length ∧ k = L.length - i
theorem allH_mk {S : AS} {p : AV} {ks : List Con} {k : Nat} {F' : Fr} {S' : AS} {i b h : Nat} {v : AV} {st : Nat → Option SubX} {L : List Kept} {x : SubS} (h1 : OneAt S' S.next b h st v L L.length) (h2 : Sub S S') (h3 : abst st 3 = some x) (h4 : x.cs = ks.map bare) (h5 : x.told = []) (h6 : nextN x 9 ≤ i + 1)
    (h7 : ∀ j, nextN x 9 ≤ j → j < i + 1 → matchAt L x.cs j = false) (h8 : ∀ k, k ∈ L → k.state = 0 ∨ k.state = 1) (h9 : L.length ≤ 30) (h10 : sl F' 1 = p) (h11 : sl F' 7 = .ptr h 0 0 3) (h12 : sl F' 8 = .ptr b 0 0 17) (h13 : sl F' 9 = .int .u64 ((i : Int) + 1)) (h14 : i ≤ L.length) (h15 : k = L.length - i) : allH S p ks k F' S' :=
  ⟨i, b, h, v, st, L, x, h1, h2, h3, h4, h5, h6, h7, h8, h9, h10, h11, h12, h13, h14, h15⟩
set_option maxRecDepth 20000 in
theorem law3 {S : AS} {x p : AV} {l : List Ev} {ks : List Con} {keep : Nat} (hx : EvsAt S x l) (hp : PredAt S p ks) (hl : l.length ≤ 9223372036854775807) (hk : keep < 256) : CallW C0 3 [x, p, .int .u8 keep] S fun r T => r = .bool true := by
  have u1 := hx.sl.sl
  have u2 := hx.sl.len_flat encE_len (by omega)
  refine enterW (pu0 _) (pr0 _ rfl) fn3 rfl ok3 (by simp) fun F hn hs => ?_
  rw [nt3] at hn
  have s0 := hs 0
  have s1 := hs 1
  have s2 := hs 2
  clear hs
  simp only [List.getElem?_cons_zero, List.getElem?_cons_succ, Option.getD_some] at s0 s1 s2
  obtain ⟨m, hm, hm2, hm3⟩ : ∃ m : Nat, (if (30 : Int) < l.length then 30 else (l.length : Int)) = m ∧ m ≤ l.length ∧ m ≤ 30 := by
    by_cases h : (30 : Int) < l.length
    · exact ⟨30, by rw [if_pos h]; rfl, by omega, Nat.le_refl _⟩
    · exact ⟨l.length, by rw [if_neg h], Nat.le_refl _, by omega⟩
  have hcut := cut_flat hx.sl encE_len (by omega) (l := 0) (k := m) (by omega) hm2
  have hev : EvsAt S (subA x 0 m) ((l.drop 0).take (m - 0)) := ⟨hcut, fun e he => hx.att e (List.mem_of_mem_drop (List.mem_of_mem_take he))⟩
  have hlm : ((l.drop 0).take (m - 0)).length = m := by simp; omega
  obtain ⟨r, T, ⟨h, v, L, rfl, hh, hof, hT, hft⟩, e1⟩ := (history8 hev (by omega)).ex
  rw [hlm] at hh
  have hLm : L.length = m := hof.1.trans hlm
  have hwk : IntKind.i64.wrap (keep : Int) = (keep : Int) := IntWalk.i64_in _ (by omega)
  obtain ⟨V, L', hV, hHV, hL', hz, hcall⟩ : ∃ (V : AS) (L' : List Kept), Sub S V ∧ HistAt V h v L' m ∧ L'.length = m ∧ (∀ k, k ∈ L' → (k.state = 0 ∨ k.state = 1)) ∧ (∀ id, histFoot h v L' id → S.next ≤ id) ∧ ((¬ 0 < keep ∧ V = T) ∨ (0 < keep ∧ ∃ x y : Nat, ∀ Q, CallW C0 9 [.ptr h 0 0 3, .agg [.int .i64 0, .int .i64 0, .int .i64 keep], .int .u64 (0 : Int)] T Q = Q (.tuple [.int .i64 x, .int .i64 y]) V)) := by
    have hz0 : ∀ k, k ∈ L → k.state = 0 := fun k hk => by
      obtain ⟨i, hi⟩ := List.mem_iff_getElem?.1 hk
      have hil : i < ((l.drop 0).take (m - 0)).length := by rw [hlm, ← hLm]; exact (List.getElem?_eq_some_iff.1 hi).1
      exact (hof.2 i k _ hi (List.getElem?_eq_getElem hil)).2.2.2
    by_cases hk0 : 0 < keep
    · obtain ⟨r, V, ⟨x, y, L', rfl, g1, g2, g3⟩, e2⟩ := (retain9 hh 0 0 (keep : Int) 0).ex
      have ht : Turned false L L' := by
        rcases g1 with ⟨rfl, _⟩ | ⟨g1, _⟩
        · exact Turned.refl _ _
        · have := (g1.turned).1
          have hd : doubtUp L m = false := by
            unfold doubtUp
            rw [List.any_eq_false]
            intro k hk
            have := hz0 k (List.mem_of_mem_take hk)
            simp [this]
          rw [hd] at this
          exact this
      refine ⟨V, L', ⟨fun id hid => (g3.h id (Nat.lt_of_lt_of_le hid hT.next) (fun e => by have := hft id (.inr (.inl e)); omega)).trans (hT.h id hid), Nat.le_trans hT.next g3.next⟩, g2, ht.1.trans hLm, fun k hk => ?_, fun id hf => hft id (ht.foot hf), .inr ⟨hk0, x, y, e2⟩⟩
      obtain ⟨i, hi⟩ := List.mem_iff_getElem?.1 hk
      have hil : i < L.length := by rw [← ht.1]; exact (List.getElem?_eq_some_iff.1 hi).1
      obtain ⟨s, e3, h3⟩ := ht.2 i _ (List.getElem?_eq_getElem hil)
      rw [hi] at e3
      cases e3
      have := hz0 L[i] (List.getElem_mem hil)
      rcases h3 with h3 | h3 | h3
      · left; simp only; omega
      · right; simp only; omega
      · cases h3.2.2
    · exact ⟨T, L, hT, hh, hLm, fun k hk => .inl (hz0 k hk), hft, .inl ⟨hk0, rfl⟩⟩
  obtain ⟨r, W, ⟨rfl, hb, hW⟩, e3⟩ := (newBook10 (S := V)).ex
  have hSW := hV.trans hW
  have hVn := hV.next
  have hO : OneAt W S.next V.next h (fun _ => none) v L' m := by
    refine ⟨hb, hHV.sub hW, ?_, ?_, hcall.1, hSW.next⟩
    · intro id f1 f2
      have := foot0 f1
      have := hHV.foot f2
      omega
    · intro id f1
      have := foot0 f1
      omega
  replace hcall := hcall.2
  obtain ⟨r, X, ⟨rfl, st', hSt, hab⟩, e4⟩ := (subscribe11 hO.k (hp.sub hSW) 3).ex
  have hO2 := hO.step hSt
  have hSX := hO.step0 hSW hSt
  have hE : subE (fun _ => none) 3 ks = if mayP ks = false then 30 else 0 := by unfold subE; simp
  rw [hE] at e4 hab
  cases hmay : mayP ks with
  | false =>
    rw [hmay] at e4
    rcases hcall with ⟨hk0, rfl⟩ | ⟨hk0, x1, y1, e2⟩
    · simp [s0, s1, s2, u1, u2, hm, hm2, e1, ex0, hk0, e3, e4, okW_sl hp.sl, d12]
    · simp [s0, s1, s2, u1, u2, hm, hm2, e1, ex0, hk0, e3, e4, okW_sl hp.sl, d12, bld30, hwk, e2]
  | true =>
    rw [hmay] at e4 hab
    simp only [Bool.true_eq_false, if_false, if_true] at e4 hab
    have hinit : ∀ F' : Fr, sl F' 1 = p → sl F' 7 = .ptr h 0 0 3 → sl F' 8 = .ptr V.next 0 0 17 → sl F' 9 = .int .u64 1 → allH S p ks m F' X := fun F' f1 f7 f8 f9 =>
      allH_mk (i := 0) (L := L') (x := sub0 ks) (by rw [hL']; exact hO2) hSX (by rw [hab]; rfl) rfl rfl (Nat.le_refl _) (fun j h1 h2 => by have : nextN (sub0 ks) 9 = 1 := rfl; omega) hz (by omega) f1 f7 f8 (by rw [f9]; rfl) (Nat.zero_le _) (by omega)
    rcases hcall with ⟨hk0, rfl⟩ | ⟨hk0, x1, y1, e2⟩
    all_goals
      first
        | simp [s0, s1, s2, u1, u2, hm, hm2, e1, ex0, hk0, e3, e4, okW_sl hp.sl, d12, bld30, hwk, e2]
        | simp [s0, s1, s2, u1, u2, hm, hm2, e1, ex0, hk0, e3, e4, okW_sl hp.sl, d12]
      refine loopP_of (allH S p ks) m (hinit _ (by simp [s1]) (by simp) (by simp) (by simp)) ?_
      try clear e2
      clear hinit hab hSX hO2 hSt e4 hO hb hW hSW hVn e3 hL' hz hHV hV e1 hft hof hT hh hLm
      rintro k F' S' hn' ⟨i, b, h, v, st, L, x, hO, hS, hx3, hcs, htold, hnx, hno, hst, hL30, t1, t7, t8, t9, hi, hk⟩
      have hn2 : F'.n = 91 := by rw [hn']; simp [hn]
      clear hn' s0 s1 s2 hn
      have hle : L.length ≤ 1048576 := by omega
      by_cases hi' : i < L.length
      · have hki : L[i]? = some (L[i]'hi') := List.getElem?_eq_getElem hi'
        have hkm : L[i]'hi' ∈ L := List.getElem_mem hi'
        generalize L[i]'hi' = kk at hki hkm
        have q1 : (i : Int) + 1 < (L.length : Int) + 1 := by omega
        obtain ⟨r, T1, ⟨u', rfl, hu', hub', hT1⟩, e1⟩ := (item_yes hO.hh hki).ex
        have hku := hu'.sl.cells
        have e0 := fun Q => next13 hO.hh (Q := Q)
        simp at e0 e1
        simp [t1, t7, t8, t9, e0, ex0, q1, e1, hku, bld48i hu'.sl, okW_sl hu'.sl, hu'.sl.np]
        have hTn := hT1.next
        generalize hW2 : (AS.mk ((((T1.h.set T1.next (.row [.int .u64 0, .int .u64 0, .str [], .nils] 0 0 false 42)).set T1.next (.row [.int .u64 ((i : Int) + 1), .int .u64 kk.time, .str kk.key, u'] 0 0 false 42)).set (T1.next + 1) (.row [.int .u64 0, .int .u64 0, .str [], .nils, .int .u64 0, .int .u64 0] 0 0 false 48)).set (T1.next + 1) (.row [.int .u64 ((i : Int) + 1), .int .u64 kk.time, .str kk.key, u', .int .u64 0, .int .u64 0] 0 0 false 48)) (T1.next + 2)) = W2
        have w2 : Sub T1 W2 := by
          subst hW2
          refine ⟨fun id hid => ?_, by show T1.next ≤ T1.next + 2; omega⟩
          simp only [get_set_ne _ _ (show id ≠ T1.next by omega), get_set_ne _ _ (show id ≠ T1.next + 1 by omega)]
        have w2n : W2.next = T1.next + 2 := by subst hW2; rfl
        have w10 : W2.h.get T1.next = some (.row [.int .u64 ((i : Int) + 1), .int .u64 kk.time, .str kk.key, u'] 0 0 false 42) := by
          subst hW2
          simp only [get_set_ne _ _ (show T1.next ≠ T1.next + 1 by omega), get_set_same]
        have w13 : W2.h.get (T1.next + 1) = some (.row [.int .u64 ((i : Int) + 1), .int .u64 kk.time, .str kk.key, u', .int .u64 0, .int .u64 0] 0 0 false 48) := by
          subst hW2
          exact get_set_same _ _ _
        clear hW2
        have hS2 := (hT1.trans w2)
        have hO2 := hO.sub hS2
        have hno1 : ∀ id, S'.next ≤ id → ¬ bookFoot b st id := fun id h1 h2 => by have := hO.k.foot h2; omega
        have hno2 : ∀ id, S'.next ≤ id → ¬ histFoot h v L id := fun id h1 h2 => by have := hO.hh.foot h2; omega
        have hwi := u64_succ (n := i + 1) (by omega)
        have hi64 : IntKind.u64.wrap ((i : Int) + 1 + 1) = ((i + 1 : Nat) : Int) + 1 := by simpa using hwi
        by_cases h1 : kk.state = 1
        · have hD : encD (gapD (i + 1) (i + 1)) = [.int .u64 0, .int .u64 0, .str [], .nils, .int .u64 ((i : Int) + 1), .int .u64 ((i : Int) + 1)] := by simp [encD, gapD]
          have hW3 : Sub S' ⟨W2.h.set (T1.next + 1) (.row (encD (gapD (i + 1) (i + 1))) 0 0 false 48), W2.next⟩ := ⟨fun id hid => by show (W2.h.set _ _).get id = _; rw [get_set_ne _ _ (by omega)]; exact hS2.h id hid, hS2.next⟩
          have hO3 := hO.sub hW3
          have hr : ∀ M : List Kept, (∃ k', M[i]? = some k' ∧ k'.state ≠ 0) → rightB M L.length x.cs (gapD (i + 1) (i + 1)) = true := fun M ⟨k', h2, h3⟩ => by rw [gapD_right h2 hi']; simp [h3]
          have hsF : spanF (gapD (i + 1) (i + 1)) = i + 1 := gapD_spanF (by omega)
          have hsT : spanT (gapD (i + 1) (i + 1)) = i + 1 := gapD_spanT (by omega)
          obtain ⟨s', hg1, hg2⟩ := (goneL_turned false L (gapD (i + 1) (i + 1))).2 i kk hki
          have hs' : s' ≠ 0 := by rcases hg2 with h | h | h <;> omega
          obtain ⟨r, Y1, Y2, Y3, Y4, st4, f1, f2, f3, f4, f5, f6, f7, f8, f9, f10⟩ := told_round (B := T1.next + 1) (d := gapD (i + 1) (i + 1)) hO3 (hS.trans hW3) hx3 atts_nil (get_set_same _ _ _) (by show T1.next + 1 < W2.next; omega) (hno1 _ (by omega)) (hno2 _ (by omega)) (.inl rfl)
            (fits_yes (gapD_formed (by omega) (Nat.le_refl _)) (hr L ⟨kk, hki, by omega⟩) (by rw [hsF]; exact hnx) (by rw [hsF]; exact hno) htold) htold (gapD_formed (by omega) (Nat.le_refl _)) (hr _ ⟨_, hg1, hs'⟩) (by rw [hsF, hsT])
          rw [hsT] at f6 f10
          rw [hD] at f1 f2 f3 f4 f5
          simp at f6
          simp [h1, t1, t7, t8, t9, bld46, bld48g, w13, f1, f2, f3, f4, f5, f6, f7, ex0]
          have htl := (goneL_turned false L (gapD (i + 1) (i + 1))).1
          refine ⟨L.length - (i + 1), by omega, allH_mk (i := i + 1) (by rw [htl]; exact f8) f9 f10 hcs (told_nil _ htold _) (by rw [nextN_ack _ _ _ _ (nget_tell _ _ _)]; omega) (fun j h2 h3 => by rw [nextN_ack _ _ _ _ (nget_tell _ _ _)] at h2; omega) (states_turned (goneL_turned false L _) hst) (by rw [htl]; exact hL30) (by simp [t1]) (by simp [t7]) (by simp [t8]) (by simp [hi64]) (by rw [htl]; exact hi') (by rw [htl])⟩
        · have hD : encD (itemD i kk u') = [.int .u64 ((i : Int) + 1), .int .u64 kk.time, .str kk.key, u', .int .u64 0, .int .u64 0] := by simp [encD, itemD]
          have hmb : matchAt L x.cs (i + 1) = matchB ks kk.atts := by
            unfold matchAt
            rw [show i + 1 - 1 = i by omega, hki, hcs]
            exact matchB_bare _ _
          have hmx : matchB x.cs kk.atts = matchB ks kk.atts := by rw [hcs]; exact matchB_bare _ _
          have hu2 := hu'.sub w2
          obtain ⟨r, T5, ⟨rfl, hT5⟩, e5⟩ := (matches_ (key := kk.key) ((hp.sub hS).sub hS2) hu2).ex
          have hO5 := hO2.sub hT5
          have hS5 := hS2.trans hT5
          have w13' : T5.h.get (T1.next + 1) = some (.row (encD (itemD i kk u')) 0 0 false 48) := by rw [hT5.h _ (by omega), hD]; exact w13
          have hpo := okW_sl hp.sl
          cases hmt : matchB ks kk.atts with
          | false =>
            rw [hmt] at e5 hmb hmx
            obtain ⟨X, hX, hXx⟩ := abst_some hx3
            have hst3 : stAt st 3 = some X := by rw [show (3 : Int) = ((3 : Nat) : Int) from rfl, stAt_nat st (by omega)]; exact hX
            obtain ⟨r, T6, ⟨rfl, hT6⟩, e6⟩ := (fits16 hO5.k hO5.hh 3 9 (itemD i kk u') (hu2.sub hT5)).ex
            have hf2 : fitsV (stAt st 3) L L.length 9 (itemD i kk u') = 2 := by
              rw [hst3]
              show fitsN L L.length X.x 9 _ = 2
              rw [hXx]
              exact fits_wrong (itemD_formed _ _ _) (by rw [itemD_right _ hki hi']; exact hmx)
            rw [hf2, hD] at e6
            rw [hD] at w13'
            simp [h1, t1, t7, t8, t9, w10, hku, hpo, e5, e6, ex0, w13', okW_sl hu'.sl]
            exact ⟨L.length - (i + 1), by omega, allH_mk (i := i + 1) (hO5.sub hT6) (hS.trans (hS5.trans hT6)) hx3 hcs htold (by omega) (fun j h2 h3 => by
              by_cases hj : j = i + 1
              · rw [hj]; exact hmb
              · exact hno j h2 (by omega)) hst hL30 (by simp [t1]) (by simp [t7]) (by simp [t8]) (by simp [hi64]) hi' rfl⟩
          | true =>
            rw [hmt] at e5 hmb hmx
            have hgl : goneL L (itemD i kk u') = L := by unfold goneL; rw [itemD_gap]; rfl
            have hrt : rightB L L.length x.cs (itemD i kk u') = true := by rw [itemD_right _ hki hi']; exact hmx
            obtain ⟨r, Y1, Y2, Y3, Y4, st4, f1, f2, f3, f4, f5, f6, f7, f8, f9, f10⟩ := told_round (B := T1.next + 1) (d := itemD i kk u') hO5 (hS.trans hS5) hx3 (hu2.sub hT5) w13' (by have := hT5.next; omega) (hno1 _ (by omega)) (hno2 _ (by omega))
              (by
                show bnd u' = 0 ∨ S.next < bnd u' ∧ ∀ id, bnd u' = id + 1 → _
                rcases hub' with h | h
                · exact .inl h
                · exact .inr ⟨by have := hS.next; omega, fun id e => ⟨hno1 id (by omega), hno2 id (by omega)⟩⟩)
              (fits_yes (itemD_formed _ _ _) hrt hnx hno htold) htold (itemD_formed _ _ _) (by rw [hgl]; exact hrt) rfl
            rw [itemD_spanT] at f6 f10
            rw [hgl] at f8
            rw [hD] at f1 f2 f3 f4 f5 w13'
            simp at f6
            simp [h1, t1, t7, t8, t9, w10, hku, hpo, e5, w13', f1, f2, f3, f4, f5, f6, f7, ex0, okW_sl hu'.sl]
            exact ⟨L.length - (i + 1), by omega, allH_mk (i := i + 1) f8 f9 f10 hcs (told_nil _ htold _) (by rw [nextN_ack _ _ _ _ (nget_tell _ _ _)]; omega) (fun j h2 h3 => by rw [nextN_ack _ _ _ _ (nget_tell _ _ _)] at h2; omega) hst hL30 (by simp [t1]) (by simp [t7]) (by simp [t8]) (by simp [hi64]) hi' rfl⟩
      · have q1 : ¬ (i : Int) + 1 < (L.length : Int) + 1 := by omega
        have e0 := fun Q => next13 hO.hh (Q := Q)
        simp at e0
        simp [t1, t7, t8, t9, e0, ex0, q1, d12]
end Go.Proofs.YtedonhemfhfbaaaGreat.mod
