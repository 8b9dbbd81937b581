/-
  Doubts; a book's Crash.
  ModelAll: what fits, in plain terms.
  ModelOnce: what the law remembers, in plain terms; what lies apart.
-/
import Derived.Test.YtedonhemfhfbaaaGreatPartI
namespace Go.Proofs.YtedonhemfhfbaaaGreat.mod
open Go Go.Am
set_option linter.unusedVariables false
set_option linter.unusedSimpArgs false

section
variable {S T : AS} {h : Nat} {v : AV} {L : List Kept} {dur : Nat}
theorem doubts24 (hh : HistAt S h v L dur) : CallW C0 24 [.ptr h 0 0 3] S fun r T => r = .tuple [] ∧ HistAt T h v (doubtL L L.length) dur ∧ Keep (fun id => bnd v = id + 1) S T := by
  obtain ⟨r, T, ⟨rfl, h1, h2, h3⟩, e1⟩ := (doubts89 hh (n := L.length) (Nat.le_refl _)).ex
  have u1 := hh.gw.1.sl
  have u2 := hh.len
  refine enterW (pu0 _) (pr0 _ rfl) fn24 rfl ok24 (by simp) fun F hn hs => ?_
  have s0 := hs 0
  clear hs
  simp only [List.getElem?_cons_zero, Option.getD_some] at s0
  simp [s0, none63 hh, hh.at_, u1, u2, e1, ex0]
  exact ⟨h1, h2⟩
theorem doubtL_turned (L : List Kept) (n : Nat) : Turned true L (doubtL L n) := by
  refine ⟨doubtL_len _ _, fun i k hk => ?_⟩
  rw [doubtL_get, hk]
  by_cases hc : i < n ∧ k.state = 0
  · exact ⟨2, by simp [hc], .inr (.inr ⟨rfl, hc.2, rfl⟩)⟩
  · exact ⟨k.state, by simp only [Option.map_some, if_neg hc], .inl rfl⟩
end

def crashS (x : SubS) : SubS := { x with next := [], told := [] }
def crashX (X : SubX) (m : Nat) : SubX := { X with nm := .map m, tv := .nils, x := crashS X.x }
section
variable {S T : AS} {b : Nat} {st : Nat → Option SubX}
theorem Step.trans {R S T : AS} {b : Nat} {st st1 st2 : Nat → Option SubX} (h1 : Step R S b st st1) (h2 : Step S T b st1 st2) : Step R T b st st2 :=
  ⟨h2.book, ⟨fun id i1 i2 => (h2.keep.h id (Nat.lt_of_lt_of_le i1 h1.keep.next) (fun hf => by
    rcases h1.foot id hf with h | h
    · exact i2 h
    · omega)).trans (h1.keep.h id i1 i2), Nat.le_trans h1.keep.next h2.keep.next⟩, fun id hf => by
    rcases h2.foot id hf with h | h
    · exact h1.foot id h
    · exact .inr (Nat.le_trans h1.keep.next h)⟩
def ar8 (st : Nat → Option SubX) : AV := .agg [pX (st 0), pX (st 1), pX (st 2), pX (st 3), pX (st 4), pX (st 5), pX (st 6), pX (st 7)]
def crH (S : AS) (b : Nat) (st : Nat → Option SubX) (k : Nat) (F' : Fr) (S' : AS) : Prop :=
  ∃ (i : Nat) (st' : Nat → Option SubX), Step S S' b st st' ∧ (∀ j, j < i → (st j = none ∧ st' j = none) ∨ ∃ X m, st j = some X ∧ st' j = some (crashX X m)) ∧ (∀ j, i ≤ j → st' j = st j) ∧ sl F' 0 = .ptr b 0 0 17 ∧ sl F' 9 = ar8 st ∧ sl F' 10 = .int .i64 i ∧ i ≤ 8 ∧ k = 8 - i
end
end Go.Proofs.YtedonhemfhfbaaaGreat.mod

namespace Go.Proofs.YtedonhemfhfbaaaGreat.mod
open Go Go.Am
set_option linter.unusedVariables false
set_option linter.unusedSimpArgs false

theorem nextN_tell (x : SubS) (pub : Int) (to : Nat) : nextN (tellS x pub to) pub = to + 1 := by
  unfold nextN tellS
  simp [nget_nput]
theorem nget_tell (x : SubS) (pub : Int) (to : Nat) : nget (tellS x pub to).next pub = some (to + 1) := by
  unfold tellS
  simp [nget_nput]
def itemD (i : Nat) (k : Kept) (u : AV) : Dlv := ⟨i + 1, k.time, k.key, u, k.atts, 0, 0⟩
def gapD (fr to : Nat) : Dlv := ⟨0, 0, [], .nils, [], fr, to⟩
theorem itemD_gap (i : Nat) (k : Kept) (u : AV) : (itemD i k u).gap = false := rfl
theorem itemD_spanT (i : Nat) (k : Kept) (u : AV) : spanT (itemD i k u) = i + 1 := rfl
theorem itemD_right {L : List Kept} {dur i : Nat} {k : Kept} {cs : List Con} (u : AV) (hk : L[i]? = some k) (hd : i < dur) : rightB L dur cs (itemD i k u) = matchB cs k.atts := by
  unfold rightB
  rw [itemD_gap, itemD_spanT]
  have h1 : i + 1 ≤ dur := hd
  simp [itemD, hk, h1]
theorem gapD_gap {fr to : Nat} (h : 1 ≤ fr) : (gapD fr to).gap = true := by
  unfold Dlv.gap gapD
  have : ¬ fr = 0 := by omega
  simp [this]
theorem gapD_spanF {fr to : Nat} (h : 1 ≤ fr) : spanF (gapD fr to) = fr := by
  unfold spanF
  rw [gapD_gap h]
  rfl
theorem gapD_spanT {fr to : Nat} (h : 1 ≤ fr) : spanT (gapD fr to) = to := by
  unfold spanT
  rw [gapD_gap h]
  rfl
end Go.Proofs.YtedonhemfhfbaaaGreat.mod

namespace Go.Proofs.YtedonhemfhfbaaaGreat.mod
open Go Go.Am
set_option linter.unusedVariables false
set_option linter.unusedSimpArgs false

structure TryG where
  n : Nat
  to : Nat
  cr : Bool
def encTr (t : TryG) : List AV := [.int .u64 t.n, .int .u64 t.to, .bool t.cr]
structure OnceR (ks : List Con) (x : SubS) (nx ac : Nat) (op : List Nat) : Prop where
  cs : x.cs = ks.map bare
  told : x.told = op.map fun n => ((5 : Int), n)
  next : nextN x 5 = nx
  first : firstN x 5 = ac + 1
  has : op ≠ [] → nget x.next 5 = some nx
section
variable {ks : List Con} {x : SubS} {nx ac : Nat} {op : List Nat}
theorem OnceR.crash (h : OnceR ks x nx ac op) : OnceR ks (crashS x) (ac + 1) ac [] :=
  ⟨h.cs, rfl, h.first, h.first, fun h => absurd rfl h⟩
theorem OnceR.tell (h : OnceR ks x nx ac op) (to : Nat) : OnceR ks (tellS x 5 to) (to + 1) ac (op ++ [to]) :=
  ⟨h.cs, by simp [tellS, h.told], nextN_tell _ _ _, h.first, fun _ => nget_tell _ _ _⟩
theorem OnceR.any (h : OnceR ks x nx ac op) (to : Nat) : (x.told.any fun y => decide (((5 : Int), to) = y)) = decide (to ∈ op) := by
  rw [h.told, List.any_map, Bool.eq_iff_iff]
  simp only [List.any_eq_true, Function.comp, decide_eq_true_eq, Prod.mk.injEq, true_and]
  constructor
  · rintro ⟨n, hn, rfl⟩; exact hn
  · intro hn; exact ⟨to, hn, rfl⟩
theorem OnceR.len (h : OnceR ks x nx ac op) : x.told.length = op.length := by rw [h.told, List.length_map]
end
def natL (l : List Nat) : List AV := l.map fun n : Nat => AV.int .u64 (n : Int)
theorem natL_len (l : List Nat) : (natL l).length = l.length := by simp [natL]
theorem natL_snoc (l : List Nat) (n : Nat) : natL l ++ [.int .u64 n] = natL (l ++ [n]) := by simp [natL]
structure OnceAt (S : AS) (lo b h : Nat) (st : Nat → Option SubX) (v : AV) (L : List Kept) (dur : Nat) (ov : AV) (op : List Nat) : Prop where
  o : OneAt S lo b h st v L dur
  g : Gw S ov 1 31 (natL op)
  a : ∀ id, bnd ov = id + 1 → lo ≤ id ∧ ¬ bookFoot b st id ∧ ¬ histFoot h v L id
section
variable {S T R : AS} {lo b h : Nat} {st st' : Nat → Option SubX} {v ov : AV} {L L' : List Kept} {dur : Nat} {op : List Nat}
theorem OnceAt.sub (o : OnceAt S lo b h st v L dur ov op) (hs : Sub S T) : OnceAt T lo b h st v L dur ov op :=
  ⟨o.o.sub hs, o.g.agree (fun id e => hs.h id (by have := o.g.1.old; omega)) hs.next, o.a⟩
theorem OnceAt.step (o : OnceAt S lo b h st v L dur ov op) (hs : Step S T b st st') : OnceAt T lo b h st' v L dur ov op :=
  ⟨o.o.step hs, o.g.agree (fun id e => hs.keep.h id (by have := o.g.1.old; omega) (o.a id e).2.1) hs.keep.next, fun id e => ⟨(o.a id e).1, fun hf => by
    rcases hs.foot id hf with h1 | h1
    · exact (o.a id e).2.1 h1
    · have := o.g.1.old; omega, (o.a id e).2.2⟩⟩
end
/-- A number more. -/
theorem app_num {S' : AS} {v : AV} {op : List Nat} (n : Nat) (hg : Gw S' v 1 31 (natL op)) (hl : op.length ≤ 1048576) :
    ∃ v' T, builtinV C0 ⟨S'.h.set S'.next (.row [.int .u64 n] 0 0 false 31), S'.next + 1⟩ .append [66, 66] [v, .slice S'.next 0 0 1 1 1 (some 1)] = .val v' T ∧ Gw T v' 1 31 (natL (op ++ [n])) ∧ Keep (fun id => bnd v = id + 1) S' T ∧ (bnd v' = bnd v ∨ S'.next < bnd v') := by
  have hold := hg.1.old
  have hx : Sl (⟨S'.h.set S'.next (.row [.int .u64 n] 0 0 false 31), S'.next + 1⟩ : AS) (.slice S'.next 0 0 1 1 1 (some 1)) 1 [.int .u64 n] :=
    ⟨by simp [isSl, capB], by simp [rdS, rd_at], by simp [sLen], by simp [bnd]⟩
  have hgT : Gw (⟨S'.h.set S'.next (.row [.int .u64 n] 0 0 false 31), S'.next + 1⟩ : AS) v 1 31 (natL op) := hg.agree (fun id e => get_set_ne _ _ (by omega)) (Nat.le_succ _)
  have hlen : sLen v = op.length := by rw [hg.1.len1, natL_len]
  obtain ⟨v', V, e2, r1, r2, r3, r4, r5, r6, r7⟩ := append_gw (ts := []) (u := 66) (p := (31, 1, 8)) st66 un66 rfl hgT hx (by rw [hlen]; simp [fits, nble, sLen_slice]; omega)
  simp only at r1
  rw [natL_snoc] at r1
  refine ⟨v', V, e2, r1, ⟨fun id h1 h2 => ?_, by have : S'.next + 1 ≤ V.next := r3; omega⟩, ?_⟩
  · rw [r2 id (by show id < S'.next + 1; omega) (fun e => h2 e.symm)]
    exact get_set_ne _ _ (by omega)
  · rcases r6 with r6 | r6
    · exact .inl r6
    · right
      have : S'.next + 1 < bnd v' := r6
      omega
theorem bne_bool (c a b : Bool) : binV C0 .neq 4 c (.bool a) (.bool b) = some (.bool (a != b)) := by
  cases a <;> cases b <;> cases c <;> kernel_rfl
/-- What is tried to tell. -/
def Tried (t : TryG) (L : List Kept) (d : Dlv) (to : Nat) : Prop :=
  (t.to = 0 ∧ to = t.n ∧ d.fr = 0 ∧ d.to = 0 ∧ (d.n = 0 ∨ ∃ k, L[t.n - 1]? = some k ∧ 1 ≤ t.n ∧ d = itemD (t.n - 1) k d.u)) ∨ (0 < t.to ∧ to = t.to ∧ d = gapD t.n t.to)
theorem Tried.span {t : TryG} {L : List Kept} {d : Dlv} {to : Nat} (ht : Tried t L d to) (hf : formedB d = true) (hn : 1 ≤ t.n) : spanF d = t.n ∧ spanT d = to := by
  rcases ht with ⟨h1, h2, h3, h4, h5⟩ | ⟨h1, h2, rfl⟩
  · have hg : d.gap = false := by unfold Dlv.gap; simp [h3, h4]
    have hp : 1 ≤ d.n := by
      unfold formedB at hf
      rw [hg] at hf
      simpa using hf
    rcases h5 with h5 | ⟨k, h5, h6, h7⟩
    · omega
    · have hdn : d.n = t.n := by rw [h7]; show t.n - 1 + 1 = t.n; omega
      unfold spanF spanT
      rw [hg]
      simp only [if_true]
      omega
  · exact ⟨gapD_spanF hn, by rw [gapD_spanT hn, h2]⟩
theorem OnceAt.told {S T : AS} {lo b h : Nat} {st st' : Nat → Option SubX} {v ov : AV} {L L' : List Kept} {dur : Nat} {op : List Nat} {D : Bool} (o : OnceAt S lo b h st v L dur ov op) (o' : OneAt T lo b h st' v L' dur) (hk : Keep (fun id => bookFoot b st id ∨ histFoot h v L id) S T) (hf : ∀ id, bookFoot b st' id → bookFoot b st id ∨ S.next ≤ id) (ht : Turned D L L') : OnceAt T lo b h st' v L' dur ov op :=
  ⟨o', o.g.agree (fun id e => hk.h id (by have := o.g.1.old; omega) (fun h => by
    rcases h with h | h
    · exact (o.a id e).2.1 h
    · exact (o.a id e).2.2 h)) hk.next, fun id e => ⟨(o.a id e).1, fun hb => by
    rcases hf id hb with h | h
    · exact (o.a id e).2.1 h
    · have := o.g.1.old; omega, fun hh => (o.a id e).2.2 (ht.foot hh)⟩⟩
/-- What is told is gone, or matches. -/
theorem Tried.state {t : TryG} {L : List Kept} {d : Dlv} {to dur n : Nat} {cs : List Con} {k : Kept} (ht : Tried t L d to) (hf : formedB d = true) (hr : rightB L dur cs d = true) (hn : 1 ≤ t.n) (h1 : t.n ≤ n) (h2 : n ≤ to) (hk : (goneL L d)[n - 1]? = some k) : (0 < t.to → k.state = 1) ∧ (t.to = 0 → matchB cs k.atts = true) := by
  rcases ht with ⟨g1, g2, g3, g4, g5⟩ | ⟨g1, g2, rfl⟩
  · refine ⟨fun h => by omega, fun _ => ?_⟩
    have hg : d.gap = false := by unfold Dlv.gap; simp [g3, g4]
    have hp : 1 ≤ d.n := by
      unfold formedB at hf
      rw [hg] at hf
      simpa using hf
    rcases g5 with g5 | ⟨k', g5, g6, g7⟩
    · omega
    · have hnn : n = t.n := by omega
      have hgl : goneL L d = L := by unfold goneL; rw [hg]; rfl
      rw [hgl, hnn, g5] at hk
      cases hk
      rw [g7] at hr
      unfold rightB at hr
      simp only [Bool.and_eq_true, decide_eq_true_eq] at hr
      have hd : t.n - 1 < dur := by have := hr.1; rw [itemD_spanT] at this; omega
      have h3 := itemD_right (cs := cs) d.u g5 hd
      rw [← h3]
      unfold rightB
      simp only [Bool.and_eq_true, decide_eq_true_eq]
      exact hr
  · refine ⟨fun _ => ?_, fun h => by omega⟩
    have hgl : goneL L (gapD t.n t.to) = goneUp L t.n (t.to + 1 - t.n) := by unfold goneL; rw [gapD_gap hn]; rfl
    rw [hgl, goneUp_get] at hk
    cases hL : L[n - 1]? with
    | none => rw [hL] at hk; cases hk
    | some k' =>
      rw [hL] at hk
      simp only [Option.map_some, Option.some.injEq] at hk
      rw [if_pos (by omega)] at hk
      rw [← hk]
end Go.Proofs.YtedonhemfhfbaaaGreat.mod
