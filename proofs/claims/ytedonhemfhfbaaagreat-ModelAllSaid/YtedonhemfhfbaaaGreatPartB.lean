/-
  Holds: whether a constraint holds of a value.
  Holds, Matches.
  Which predicates may be.
  Which predicates may be; books: a subscription's place.
  Events alike.
  A history in memory.
  A history's next number; its items.
  A history's events against a predicate.
  A new history; a new book.
  Answer.
  A history behind Answer.
-/
import Derived.Test.YtedonhemfhfbaaaGreatPartA
namespace Go.Proofs.YtedonhemfhfbaaaGreat.mod
open Go Go.Am
set_option linter.unusedVariables false
set_option linter.unusedSimpArgs false

noncomputable def holdsB (c : Con) (x : Val) : Bool :=
  if c.op = 1 then true
  else if c.op = 2 then decide (x.kind = c.val.kind) && (fun n : Int => decide (n = 0)) (cmpV x c.val)
  else if c.op = 3 then decide (x.kind = c.val.kind) && (fun n : Int => decide (n ≠ 0)) (cmpV x c.val)
  else if c.op = 4 then decide (x.kind = c.val.kind) && (fun n : Int => decide (n < 0)) (cmpV x c.val)
  else if c.op = 5 then decide (x.kind = c.val.kind) && (fun n : Int => decide (n ≤ 0)) (cmpV x c.val)
  else if c.op = 6 then decide (x.kind = c.val.kind) && (fun n : Int => decide (0 < n)) (cmpV x c.val)
  else if c.op = 7 then decide (x.kind = c.val.kind) && (fun n : Int => decide (0 ≤ n)) (cmpV x c.val)
  else if c.op = 8 then decide (x.kind = 2) && (decide (c.val.kind = 2) && prefB x.str c.val.str)
  else if c.op = 9 then c.vals.any fun y => decide (cmpV x y = 0)
  else false
theorem mk159 (g : FuncId) (i : Nat) {S : AS} {Q : AV → AS → Prop} : CallW C0 159 [.func (.func g) [] [], .ptr i 0 0 7] S Q = Q (.func (.func 160) [] [.ptr i 0 0 7, .ptr S.next 0 0 1]) ⟨S.h.set S.next (.row [.func (.func g) [] []] 0 0 false 73), S.next + 1⟩ := by
  refine CallW.eq (enterW (pu0 _) (pr0 _ rfl) fn159 rfl ok159 (by simp) fun F hn hs => ?_)
  have s0 := hs 0
  have s1 := hs 1
  clear hs
  simp only [List.getElem?_cons_zero, List.getElem?_cons_succ, Option.getD_some] at s0 s1
  simp [s0, s1]
/-- A function that answers what a constraint asks. -/
def Asks (c : Con) (S : AS) (v : AV) (T : AS) : Prop := ∃ f caps, v = .func (.func f) [] caps ∧ (f == 228) = false ∧ Sub S T ∧ ∀ x T', Sub T T' → CallW C0 f (.agg (encV x) :: caps) T' fun r U => r = .bool (holdsB c x) ∧ Sub T' U
theorem asksC (c : Con) {S : AS} (n : Int) (ho : c.op = n) (g : FuncId) (P : Int → Bool) (hg : (g == 228) = false) (hP : ∀ (n : Int) (T : AS) (Q : AV → AS → Prop), CallW C0 g [.int .i64 n] T Q = Q (.bool (P n)) T) (hh : ∀ x, holdsB c x = (decide (x.kind = c.val.kind) && P (cmpV x c.val))) :
    Asks c S (.func (.func 160) [] [.ptr S.next 0 0 7, .ptr (S.next + 1) 0 0 1]) ⟨(S.h.set S.next (.row (encC c) 0 0 false 105)).set (S.next + 1) (.row [.func (.func g) [] []] 0 0 false 73), S.next + 2⟩ := by
  refine ⟨160, _, rfl, rfl, sub2, fun x T' hT => ?_⟩
  rw [hh]
  refine ask160 x c g P S.next (S.next + 1) hg hP ?_ ?_ ?_ ?_
  · rw [hT.h _ (show S.next < S.next + 2 by omega)]; simp only [get_set_ne _ _ (show S.next ≠ S.next + 1 by omega)]; exact get_set_same _ _ _
  · rw [hT.h _ (show S.next + 1 < S.next + 2 by omega)]; exact get_set_same _ _ _
  · exact Nat.lt_of_lt_of_le (show S.next < S.next + 2 by omega) hT.next
  · exact Nat.lt_of_lt_of_le (show S.next + 1 < S.next + 2 by omega) hT.next
theorem asks (c : Con) {S : AS} (hc : ConOk S c) : CallW C0 131 [.agg (encC c)] S fun v T => Asks c S v T := by
  refine enterW (pu0 _) (pr0 _ rfl) fn131 rfl ok131 (by simp) fun F hn hs => ?_
  have s0 := hs 0
  clear hs
  simp only [List.getElem?_cons_zero, Option.getD_some, encC] at s0
  by_cases h1 : c.op = 1
  · simp [s0, h1, ex0]
    exact ⟨162, [], rfl, rfl, sub1, fun x T' hT => by unfold holdsB; rw [if_pos h1]; exact ask162 _ _ rfl T'⟩
  by_cases h2 : c.op = 2
  · have key := asksC (S := S) c 2 h2 163 (fun n : Int => decide (n = 0)) rfl (fun n T Q => op163 n) (fun x => by unfold holdsB; simp [h2])
    simp only [encC, h2] at key
    simp [s0, h2, ex0, mk159]
    exact key
  by_cases h3 : c.op = 3
  · have key := asksC (S := S) c 3 h3 164 (fun n : Int => decide (n ≠ 0)) rfl (fun n T Q => op164 n) (fun x => by unfold holdsB; simp [h3])
    simp only [encC, h3] at key
    simp [s0, h3, ex0, mk159]
    exact key
  by_cases h4 : c.op = 4
  · have key := asksC (S := S) c 4 h4 165 (fun n : Int => decide (n < 0)) rfl (fun n T Q => op165 n) (fun x => by unfold holdsB; simp [h4])
    simp only [encC, h4] at key
    simp [s0, h4, ex0, mk159]
    exact key
  by_cases h5 : c.op = 5
  · have key := asksC (S := S) c 5 h5 166 (fun n : Int => decide (n ≤ 0)) rfl (fun n T Q => op166 n) (fun x => by unfold holdsB; simp [h5])
    simp only [encC, h5] at key
    simp [s0, h5, ex0, mk159]
    exact key
  by_cases h6 : c.op = 6
  · have key := asksC (S := S) c 6 h6 167 (fun n : Int => decide (0 < n)) rfl (fun n T Q => op167 n) (fun x => by unfold holdsB; simp [h6])
    simp only [encC, h6] at key
    simp [s0, h6, ex0, mk159]
    exact key
  by_cases h7 : c.op = 7
  · have key := asksC (S := S) c 7 h7 168 (fun n : Int => decide (0 ≤ n)) rfl (fun n T Q => op168 n) (fun x => by unfold holdsB; simp [h7])
    simp only [encC, h7] at key
    simp [s0, h7, ex0, mk159]
    exact key
  have sz : Sub S ⟨S.h.set S.next (.row (encC c) 0 0 false 105), S.next + 1⟩ := sub1
  by_cases h8 : c.op = 8
  · simp only [encC, h8] at sz
    simp [s0, h8, ex0]
    refine ⟨169, _, rfl, rfl, sz, fun x T' hT => ?_⟩
    have hh : holdsB c x = (decide (x.kind = 2) && (decide (c.val.kind = 2) && prefB x.str c.val.str)) := by unfold holdsB; simp [h8]
    rw [hh]
    refine ask169 x c S.next ?_ hT.next
    rw [hT.h _ (Nat.lt_succ_self _), get_set_same]; simp only [encC, h8]
  by_cases h9 : c.op = 9
  · simp only [encC, h9] at sz
    simp [s0, h9, ex0]
    refine ⟨171, _, rfl, rfl, sz, fun x T' hT => ?_⟩
    have hh : holdsB c x = (c.vals.any fun y => decide (cmpV x y = 0)) := by unfold holdsB; simp [h9]
    rw [hh]
    refine ask171 x c S.next (hc.sub (sz.trans hT)) ?_ hT.next
    rw [hT.h _ (Nat.lt_succ_self _), get_set_same]; simp only [encC, h9]
  · simp [s0, h1, h2, h3, h4, h5, h6, h7, h8, h9, ex0]
    refine ⟨173, [], rfl, rfl, sz, fun x T' hT => ?_⟩
    have hh : holdsB c x = false := by unfold holdsB; simp [h1, h2, h3, h4, h5, h6, h7, h8, h9]
    rw [hh]
    exact ask173 _ _ rfl T'
end Go.Proofs.YtedonhemfhfbaaaGreat.mod

namespace Go.Proofs.YtedonhemfhfbaaaGreat.mod
open Go Go.Am
set_option linter.unusedVariables false
set_option linter.unusedSimpArgs false

theorem nt79 : Tryz.f79.ntmps = 9 := by kernel_rfl
theorem holds (c : Con) (x : Val) {S : AS} (hc : ConOk S c) : CallW C0 79 [.agg (encC c), .agg (encV x)] S fun r T => r = .bool (holdsB c x) ∧ Sub S T := by
  have hS : Sub S ⟨(S.h.set S.next (.row (encC c) 0 0 false 105)).set (S.next + 1) (.row (encV x) 0 0 false 102), S.next + 2⟩ := sub2
  obtain ⟨v, T, ⟨f, caps, rfl, hf, hT, hcall⟩, e⟩ := (asks c (hc.sub hS)).ex
  obtain ⟨r, U, ⟨rfl, hU⟩, e2⟩ := (hcall x T (Sub.refl T)).ex
  have g1 : T.h.get (S.next + 1) = some (.row (encV x) 0 0 false 102) := by rw [hT.h _ (Nat.lt_succ_self _)]; exact get_set_same _ _ _
  refine enterW (pu0 _) (pr0 _ rfl) fn79 rfl ok79 (by simp) fun F hn hs => ?_
  rw [nt79] at hn
  have s0 := hs 0
  have s1 := hs 1
  clear hs
  simp only [List.getElem?_cons_zero, List.getElem?_cons_succ, Option.getD_some, encV, encC] at s0 s1 e e2 g1
  simp [s0, s1, hn]
  refine draws [.r 0 0, .e [], .r 1 0, .e [], .p] (n := 9) (by kernel_rfl) (by simp [hn]) ?_
  simp [s0, s1, e, e2, g1, ex0, ex0 f hf, baseL, (hS.trans hT).trans hU]

noncomputable def failB (l : List Att) (c : Con) : Bool := match getA l c.name with | none => true | some v => !holdsB c v
noncomputable def matchB (cs : List Con) (l : List Att) : Bool := !cs.any (failB l)
/-- A predicate lies in memory. -/
structure PredAt (S : AS) (p : AV) (cs : List Con) : Prop where
  sl : Sl S p 7 (cs.flatMap encC)
  con : ∀ c, c ∈ cs → ConOk S c
  le : cs.length ≤ 9223372036854775807
theorem PredAt.sub {S T : AS} {p : AV} {cs : List Con} (h : PredAt S p cs) (hs : Sub S T) : PredAt T p cs := ⟨h.sl.toSub hs, fun c hc => (h.con c hc).sub hs, h.le⟩
/-- An event's attributes lie in memory. -/
structure AttsAt (S : AS) (u : AV) (l : List Att) : Prop where
  sl : Sl S u 5 (l.flatMap encA)
  le : l.length ≤ 2513169434843
theorem AttsAt.sub {S T : AS} {u : AV} {l : List Att} (h : AttsAt S u l) (hs : Sub S T) : AttsAt T u l := ⟨h.sl.toSub hs, h.le⟩
theorem match1 (c : Con) (id : Nat) {S : AS} {key : List Nat} {u : AV} {l : List Att} (hc : ConOk S c) (hl : AttsAt S u l) (hid : S.h.get id = some (.row [.str key, u] 0 0 false 40)) (hlt : id < S.next) :
    CallW C0 77 [.agg (encC c), .ptr id 0 0 2] S fun r T => r = .bool (failB l c) ∧ Sub S T := by
  have h1 : Sub S ⟨S.h.set S.next (.row (encC c) 0 0 false 105), S.next + 1⟩ := sub1
  obtain ⟨v, T, ⟨rfl, hT⟩, e⟩ := (get (key := key) (n := c.name) (hl.sub h1).sl hl.le).ex
  have hT1 := h1.trans hT
  have g0 : T.h.get S.next = some (.row (encC c) 0 0 false 105) := by rw [hT.h _ (Nat.lt_succ_self _)]; exact get_set_same _ _ _
  have hTn : S.next < T.next := hT.next
  have hz : ∀ w : Val, Sub T ⟨(T.h.set T.next (.row [.int .i64 0, .int .i64 0, .str [], .bool false] 0 0 false 102)).set T.next (.row (encV w) 0 0 false 102), T.next + 1⟩ := fun w => sub1s
  refine enterW (pu0 _) (pr0 _ rfl) fn77 rfl ok77 (by simp) fun F hn hs => ?_
  have s0 := hs 0
  have s1 := hs 1
  clear hs
  have hu := hl.sl.cells
  unfold failB
  cases hg : getA l c.name with
  | none =>
    simp only [hg, Option.getD_none, Option.isSome_none, zeroV] at e
    have hz0 := hz zeroV
    simp only [List.getElem?_cons_zero, List.getElem?_cons_succ, Option.getD_some, encV, encC, zeroV] at s0 s1 e g0 hz0
    simp [s0, s1, hid, ne_lt hlt, e, g0, ex0, hu, hT1.trans hz0]
  | some w =>
    simp only [hg, Option.getD_some, Option.isSome_some] at e
    obtain ⟨r, U, ⟨rfl, hU⟩, e2⟩ := (holds c w (hc.sub (hT1.trans (hz w)))).ex
    have hz0 := hz w
    simp only [List.getElem?_cons_zero, List.getElem?_cons_succ, Option.getD_some, encV, encC] at s0 s1 e g0 hz0 e2 hU
    simp [s0, s1, hid, ne_lt hlt, ne_lt hTn, e, e2, g0, ex0, hu, (hT1.trans hz0).trans hU]
theorem matches_ {S : AS} {p u : AV} {cs : List Con} {l : List Att} {key : List Nat} (hp : PredAt S p cs) (hl : AttsAt S u l) : CallW C0 15 [p, .agg [.str key, u]] S fun r T => r = .bool (matchB cs l) ∧ Sub S T := by
  have h1 : Sub S ⟨S.h.set S.next (.row [.str key, u] 0 0 false 40), S.next + 1⟩ := sub1
  obtain ⟨v, T, ⟨rfl, hT⟩, e⟩ := (con76 (P := failB l) (f := 77) (caps := [.ptr S.next 0 0 2]) encC_len (hp.sub h1).sl (by have := hp.le; omega) rfl (fun T hT c hc => match1 c S.next (((hp.con c hc).sub h1).sub hT) ((hl.sub h1).sub hT)
    (by rw [hT.h _ (Nat.lt_succ_self _)]; exact get_set_same _ _ _) hT.next)).ex
  refine enterW (pu0 _) (pr0 _ rfl) fn15 rfl ok15 (by simp) fun F hn hs => ?_
  have s0 := hs 0
  have s1 := hs 1
  clear hs
  have hu := hl.sl.cells
  simp only [List.getElem?_cons_zero, List.getElem?_cons_succ, Option.getD_some] at s0 s1
  simp [s0, s1, hu, e, ex0, matchB, h1.trans hT]
end Go.Proofs.YtedonhemfhfbaaaGreat.mod

namespace Go.Proofs.YtedonhemfhfbaaaGreat.mod
open Go Go.Am
set_option linter.unusedVariables false
set_option linter.unusedSimpArgs false

theorem not157 (v : Val) (S : AS) : CallW C0 157 [.agg (encV v)] S fun r T => r = .bool (!mayV v) ∧ Sub S T := by
  obtain ⟨r, T, ⟨rfl, hT⟩, e⟩ := (mayIs v ⟨S.h.set S.next (.row (encV v) 0 0 false 102), S.next + 1⟩).ex
  refine enterW (pu0 _) (pr0 _ rfl) fn157 rfl ok157 (by simp) fun F hn hs => ?_
  have s0 := hs 0
  clear hs
  simp only [List.getElem?_cons_zero, List.getElem?_cons_succ, Option.getD_some, encV] at s0 e
  simp [s0, e, ex0, Sub.trans sub1 hT]
noncomputable def setB (c : Con) : Bool := !c.vals.any fun v => !mayV v
noncomputable def mayC (c : Con) : Bool :=
  if c.name.length < 1 then false else if 16 < c.name.length then false
  else if c.op = 1 then sameB c.val zeroV && decide (c.vals.length = 0)
  else if 2 ≤ c.op ∧ c.op ≤ 7 then mayV c.val && decide (c.vals.length = 0)
  else if c.op = 8 then mayV c.val && (decide (c.val.kind = 2) && decide (c.vals.length = 0))
  else if c.op = 9 then sameB c.val zeroV && (decide (1 ≤ c.vals.length) && (decide (c.vals.length ≤ 6) && setB c))
  else false
set_option maxHeartbeats 4000000 in
theorem mayCons (c : Con) {S : AS} (hc : ConOk S c) : CallW C0 125 [.agg (encC c)] S fun r T => r = .bool (mayC c) ∧ Sub S T := by
  have h1 : Sub S ⟨S.h.set S.next (.row (encC c) 0 0 false 105), S.next + 1⟩ := sub1
  obtain ⟨v, T, ⟨rfl, hT⟩, e⟩ := (con156 (P := fun v => !mayV v) (f := 157) (caps := []) encV_len (hc.sub h1).sl (by have := hc.le; omega) rfl (fun T hT v hv => not157 v T)).ex
  obtain ⟨r, U, ⟨rfl, hU⟩, e2⟩ := (mayIs c.val T).ex
  have hT1 := h1.trans hT
  have hU1 := hT1.trans hU
  have g0 : T.h.get S.next = some (.row (encC c) 0 0 false 105) := by rw [hT.h _ (Nat.lt_succ_self _)]; exact get_set_same _ _ _
  have g1 : U.h.get S.next = some (.row (encC c) 0 0 false 105) := by rw [hU.h _ hT.next]; exact g0
  have u1 := hc.sl.sl
  have u2 := hc.sl.len_flat encV_len (by omega)
  refine enterW (pu0 _) (pr0 _ rfl) fn125 rfl ok125 (by simp) fun F hn hs => ?_
  have s0 := hs 0
  clear hs
  have hs : (c.vals.any fun v => !mayV v) = !setB c := by simp [setB]
  simp only [List.getElem?_cons_zero, List.getElem?_cons_succ, Option.getD_some, encC, encV, hs] at s0 e e2 g0 g1
  unfold mayC
  by_cases n1 : c.name.length < 1
  · have n1' : (c.name.length : Int) < 1 := by omega
    simp [s0, len_str un9, n1', n1, h1]
    simp only [encC] at h1
    exact h1
  have n1' : ¬ (c.name.length : Int) < 1 := by omega
  by_cases n2 : 16 < c.name.length
  · have n2' : (16 : Int) < c.name.length := by omega
    simp [s0, len_str un9, n1', n1, n2', n2]
    simp only [encC] at h1
    exact h1
  have n2' : ¬ (16 : Int) < c.name.length := by omega
  have hbe : sameB ⟨c.val.kind, c.val.num, c.val.str, c.val.bool⟩ ⟨0, 0, [], false⟩ = sameB c.val zeroV := rfl
  have q0 : ((c.vals.length : Int) = 0) = (c.vals.length = 0) := by simp
  have q1 : ((1 : Int) ≤ c.vals.length) = (1 ≤ c.vals.length) := by simp; omega
  have q6 : ((c.vals.length : Int) ≤ 6) = (c.vals.length ≤ 6) := by simp; omega
  by_cases o1 : c.op = 1
  · simp only [o1] at s0 e e2 g0 g1
    cases hb : sameB c.val zeroV <;> simp [s0, len_str un9, n1', n1, n2', n2, o1, ex0, e, e2, g0, g1, u1, u2, eqc102, hbe, hb, hT1]
  by_cases o2 : 2 ≤ c.op
  · by_cases o7 : c.op ≤ 7
    · cases hb : mayV c.val <;> simp [s0, len_str un9, n1', n1, n2', n2, o1, o2, o7, ex0, e, e2, g0, g1, u1, u2, eqc102, hb, hU1]
    by_cases o8 : c.op = 8
    · simp only [o8] at s0 e e2 g0 g1
      cases hb : mayV c.val with
      | false => simp [s0, len_str un9, n1', n1, n2', n2, o1, o2, o7, o8, ex0, e, e2, g0, g1, u1, u2, eqc102, hb, hU1]
      | true =>
        by_cases k2 : c.val.kind = 2
        · simp only [k2] at s0 e e2 g0 g1
          simp [s0, len_str un9, n1', n1, n2', n2, o1, o2, o7, o8, ex0, e, e2, g0, g1, u1, u2, eqc102, hb, k2, hU1]
        · simp [s0, len_str un9, n1', n1, n2', n2, o1, o2, o7, o8, ex0, e, e2, g0, g1, u1, u2, eqc102, hb, k2, hU1]
    by_cases o9 : c.op = 9
    · simp only [o9] at s0 e e2 g0 g1
      cases hb : sameB c.val zeroV with
      | false => simp [s0, len_str un9, n1', n1, n2', n2, o1, o2, o7, o8, o9, ex0, e, e2, g0, g1, u1, u2, eqc102, hbe, hb, hT1]
      | true =>
        by_cases l1 : 1 ≤ c.vals.length
        · by_cases l6 : c.vals.length ≤ 6
          · simp [s0, len_str un9, n1', n1, n2', n2, o1, o2, o7, o8, o9, ex0, e, e2, g0, g1, u1, u2, eqc102, hbe, hb, q1, q6, l1, l6, hT1]
          · simp [s0, len_str un9, n1', n1, n2', n2, o1, o2, o7, o8, o9, ex0, e, e2, g0, g1, u1, u2, eqc102, hbe, hb, q1, q6, l1, l6, hT1]
        · simp [s0, len_str un9, n1', n1, n2', n2, o1, o2, o7, o8, o9, ex0, e, e2, g0, g1, u1, u2, eqc102, hbe, hb, q1, q6, l1, hT1]
    · simp [s0, len_str un9, n1', n1, n2', n2, o1, o2, o7, o8, o9, ex0, e, e2, g0, g1, u1, u2, eqc102, hT1]
  · have o8 : ¬ c.op = 8 := by omega
    have o9 : ¬ c.op = 9 := by omega
    simp [s0, len_str un9, n1', n1, n2', n2, o1, o2, o8, o9, ex0, e, e2, g0, g1, u1, u2, eqc102, hT1]
end Go.Proofs.YtedonhemfhfbaaaGreat.mod

namespace Go.Proofs.YtedonhemfhfbaaaGreat.mod
open Go Go.Am
set_option linter.unusedVariables false
set_option linter.unusedSimpArgs false

theorem not124 (c : Con) {S : AS} (hc : ConOk S c) : CallW C0 124 [.agg (encC c)] S fun r T => r = .bool (!mayC c) ∧ Sub S T := by
  have h1 : Sub S ⟨S.h.set S.next (.row (encC c) 0 0 false 105), S.next + 1⟩ := sub1
  obtain ⟨r, T, ⟨rfl, hT⟩, e⟩ := (mayCons c (hc.sub h1)).ex
  have hT1 := h1.trans hT
  refine enterW (pu0 _) (pr0 _ rfl) fn124 rfl ok124 (by simp) fun F hn hs => ?_
  have s0 := hs 0
  clear hs
  simp only [List.getElem?_cons_zero, List.getElem?_cons_succ, Option.getD_some, encC] at s0 e
  simp [s0, e, ex0, hT1]
noncomputable def mayP (cs : List Con) : Bool := decide (cs.length ≤ 6) && !cs.any fun c => !mayC c
theorem mayPred {S : AS} {p : AV} {cs : List Con} (hp : PredAt S p cs) : CallW C0 71 [p] S fun r T => r = .bool (mayP cs) ∧ Sub S T := by
  obtain ⟨v, T, ⟨rfl, hT⟩, e⟩ := (con76 (P := fun c => !mayC c) (f := 124) (caps := []) encC_len hp.sl (by have := hp.le; omega) rfl (fun T hT c hc => not124 c ((hp.con c hc).sub hT))).ex
  have u1 := hp.sl.sl
  have u2 := hp.sl.len_flat encC_len (by omega)
  have q6 : ((cs.length : Int) ≤ 6) = (cs.length ≤ 6) := by simp; omega
  refine enterW (pu0 _) (pr0 _ rfl) fn71 rfl ok71 (by simp) fun F hn hs => ?_
  have s0 := hs 0
  clear hs
  simp only [List.getElem?_cons_zero, List.getElem?_cons_succ, Option.getD_some] at s0
  unfold mayP
  by_cases l6 : cs.length ≤ 6
  · simp [s0, u1, u2, q6, l6, e, ex0, hT]
  · simp [s0, u1, u2, q6, l6, ex0, Sub.refl]
end Go.Proofs.YtedonhemfhfbaaaGreat.mod

namespace Go.Proofs.YtedonhemfhfbaaaGreat.mod
open Go Go.Am
set_option linter.unusedVariables false
set_option linter.unusedSimpArgs false

deriving instance DecidableEq for Val
deriving instance DecidableEq for Att
theorem sameB_eq (a b : Val) : sameB a b = decide (a = b) := by
  obtain ⟨ak, an, ax, ab⟩ := a
  obtain ⟨bk, bn, bx, bb⟩ := b
  unfold sameB
  simp only [eqS_eq, Val.mk.injEq]
  by_cases h1 : ak = bk <;> by_cases h2 : an = bn <;> by_cases h3 : ax = bx <;> cases ab <;> cases bb <;> simp [h1, h2, h3]
theorem nec107 (c : Bool) (a b : Att) : binV C0 .neq 107 c (.agg (encA a)) (.agg (encA b)) = some (.bool (!decide (a = b))) := by
  obtain ⟨an, ⟨ak, ai, ax, ab⟩⟩ := a
  obtain ⟨bn, ⟨bk, bi, bx, bb⟩⟩ := b
  have e : eqV C0 107 c (.agg [.str an, .int .i64 ak, .int .i64 ai, .str ax, .bool ab]) (.agg [.str bn, .int .i64 bk, .int .i64 bi, .str bx, .bool bb]) =
      andS (some (eqS an bn)) (andS (andS (some (eqI ak bk)) (andS (some (eqI ai bi)) (andS (some (eqS ax bx)) (andS (some (ab == bb)) (some true))))) (some true)) := by kernel_rfl
  have h : eqV C0 107 c (.agg (encA ⟨an, ⟨ak, ai, ax, ab⟩⟩)) (.agg (encA ⟨bn, ⟨bk, bi, bx, bb⟩⟩)) = some (decide ((⟨an, ⟨ak, ai, ax, ab⟩⟩ : Att) = ⟨bn, ⟨bk, bi, bx, bb⟩⟩)) := by
    simp only [encA, encV]
    rw [e, eqI_eq, eqI_eq]
    simp only [eqS_eq, Att.mk.injEq, Val.mk.injEq]
    unfold andS
    by_cases h1 : an = bn <;> by_cases h2 : ak = bk <;> by_cases h3 : ai = bi <;> by_cases h4 : ax = bx <;> cases ab <;> cases bb <;> simp [h1, h2, h3, h4]
  simp only [encA, encV] at h ⊢
  unfold binV
  simp [h, oddA]
theorem nt146 : Tryz.f146.ntmps = 26 := by kernel_rfl
/-- The head of a round of slices.Equal. -/
def eqlH (S : AS) (u v : AV) (l m : List Att) (k : Nat) (F' : Fr) (S' : AS) : Prop :=
  ∃ i : Nat, S' = S ∧ sl F' 0 = u ∧ sl F' 1 = v ∧ sl F' 12 = .int .i64 l.length ∧ sl F' 13 = .int .i64 i ∧ i ≤ l.length ∧ k = l.length - i ∧ l.take i = m.take i
theorem eqlH_mk {S : AS} {u v : AV} {l m : List Att} {k : Nat} {F' : Fr} (i : Nat) (h2 : sl F' 0 = u) (h3 : sl F' 1 = v) (h4 : sl F' 12 = .int .i64 l.length) (h5 : sl F' 13 = .int .i64 i) (h6 : i ≤ l.length) (h7 : k = l.length - i) (h8 : l.take i = m.take i) : eqlH S u v l m k F' S :=
  ⟨i, rfl, h2, h3, h4, h5, h6, h7, h8⟩
theorem equal {S : AS} {u v : AV} {l m : List Att} (hl : AttsAt S u l) (hm : AttsAt S v m) {Q : AV → AS → Prop} : CallW C0 146 [u, v] S Q = Q (.bool (decide (l = m))) S := by
  refine CallW.eq (enterW (pu0 _) (pr0 _ rfl) fn146 rfl ok146 (by simp) fun F hn hs => ?_)
  rw [nt146] at hn
  have s0 := hs 0
  have s1 := hs 1
  clear hs
  simp only [List.getElem?_cons_zero, List.getElem?_cons_succ, Option.getD_some] at s0 s1
  have u1 := hl.sl.sl
  have v1 := hm.sl.sl
  have u2 := hl.sl.len_flat encA_len (by omega)
  have v2 := hm.sl.len_flat encA_len (by omega)
  have hle := hl.le
  by_cases hlen : l.length = m.length
  · simp [s0, s1, u1, v1, u2, v2, hlen]
    refine loopP_of (eqlH S u v l m) l.length (eqlH_mk 0 (by simp [s0]) (by simp [s1]) (by simp [hlen]) (by simp) (Nat.zero_le _) rfl (by simp)) ?_
    rintro k F' S' hn' ⟨i, rfl, t0, t1, t12, t13, hi, hk, ha⟩
    have hn2 : F'.n = 26 := by rw [hn']; simp [hn]
    clear hn' s0 s1 hn
    by_cases hi' : i < l.length
    · have hi2 : i < m.length := by omega
      have hx := loadT_el (cx := C0) (e := 107) hl.sl encA_len (by omega) (List.getElem?_eq_getElem hi') ag107 sz107
      have hy := loadT_el (cx := C0) (e := 107) hm.sl encA_len (by omega) (List.getElem?_eq_getElem hi2) ag107 sz107
      have bx : baseL (encA l[i]) = true := by simp [encA, encV, baseL]
      have bY : baseL (encA m[i]) = true := by simp [encA, encV, baseL]
      simp [t0, t1, t12, t13, hi', hn2]
      refine still_ok (n := 26) (by kernel_rfl) (by simp [hn2]) ?_
      by_cases hc : l[i] = m[i]
      · simp [t0, t1, t12, t13, u1, u2, v1, v2, hi', hi2, hx, hy, nec107, hc, hl.sl.ok, hm.sl.ok, bY]
        exact ⟨l.length - (i + 1), by omega, eqlH_mk (i + 1) (by simp [t0]) (by simp [t1]) (by simp [t12]) (by simp [wrap_succ (show i < 9223372036854775807 by omega)]) hi' rfl (take_more ha hi' hi2 hc)⟩
      · have hne : ¬ l = m := by rintro rfl; exact hc rfl
        simp [t0, t1, t12, t13, u1, u2, v1, v2, hi', hi2, hx, hy, nec107, hc, hl.sl.ok, hm.sl.ok, bx, bY, hne]
    · rw [List.take_of_length_le (by omega), List.take_of_length_le (by omega)] at ha
      subst ha
      simp [t12, t13, hi']
  · have hlen' : ¬ ((l.length : Int) = m.length) := by omega
    have hne : ¬ l = m := fun e => hlen (by rw [e])
    simp [s0, s1, u1, v1, u2, v2, hlen', hne]
theorem evSame {S : AS} {u v : AV} {l m : List Att} {a b : List Nat} (hl : AttsAt S u l) (hm : AttsAt S v m) : CallW C0 114 [.agg [.str a, u], .agg [.str b, v]] S fun r T => r = .bool (decide (a = b) && decide (l = m)) ∧ Sub S T := by
  refine enterW (pu0 _) (pr0 _ rfl) fn114 rfl ok114 (by simp) fun F hn hs => ?_
  have s0 := hs 0
  have s1 := hs 1
  clear hs
  simp only [List.getElem?_cons_zero, List.getElem?_cons_succ, Option.getD_some] at s0 s1
  have h2 : Sub S ⟨(S.h.set S.next (.row [.str a, u] 0 0 false 40)).set (S.next + 1) (.row [.str b, v] 0 0 false 40), S.next + 2⟩ := sub2
  have e := fun Q => equal (hl.sub h2) (hm.sub h2) (Q := Q)
  by_cases h : a = b
  · subst h
    simp [s0, s1, hl.sl.cells, hm.sl.cells, eqS_eq, e, ex0, h2]
  · simp [s0, s1, hl.sl.cells, hm.sl.cells, eqS_eq, h, ex0, h2]
end Go.Proofs.YtedonhemfhfbaaaGreat.mod

namespace Go.Proofs.YtedonhemfhfbaaaGreat.mod
open Go Go.Am
set_option linter.unusedVariables false
set_option linter.unusedSimpArgs false

structure Kept where
  time : Nat
  key : List Nat
  u : AV
  atts : List Att
  state : Int
def encK (k : Kept) : List AV := [.int .u64 k.time, .str k.key, k.u, .int .i64 k.state]
theorem encK_len (k : Kept) : (encK k).length = 4 := rfl
structure HistAt (S : AS) (h : Nat) (v : AV) (L : List Kept) (dur : Nat) : Prop where
  lt : h < S.next
  at_ : S.h.get h = some (.row [.bool true, v, .int .i64 dur] 0 0 false 140)
  gw : Gw S v 4 142 (L.flatMap encK)
  att : ∀ k, k ∈ L → AttsAt S k.u k.atts
  apart : ∀ k, k ∈ L → bnd k.u ≠ h + 1 ∧ (bnd k.u = 0 ∨ bnd k.u ≠ bnd v)
  self : bnd v ≠ h + 1
  dur : dur ≤ L.length
  le : L.length ≤ 1048576
theorem none63 {S : AS} {h : Nat} {v : AV} {L : List Kept} {d : Nat} (hh : HistAt S h v L d) {Q : AV → AS → Prop} : CallW C0 63 [.ptr h 0 0 3] S Q = Q (.bool false) S := by
  refine CallW.eq (enterW (pu0 _) (pr0 _ rfl) fn63 rfl ok63 (by simp) fun F hn hs => ?_)
  have s0 := hs 0
  clear hs
  simp only [List.getElem?_cons_zero, Option.getD_some] at s0
  simp [s0, hh.at_]
theorem durable26 {S : AS} {h : Nat} {v : AV} {L : List Kept} {d : Nat} (hh : HistAt S h v L d) {Q : AV → AS → Prop} : CallW C0 26 [.ptr h 0 0 3] S Q = Q (.int .u64 d) S := by
  have h1 := hh.dur
  have h2 := hh.le
  have hw : IntKind.u64.wrap (d : Int) = (d : Int) := by
    simp [IntKind.wrap, IntKind.bits, IntKind.signed]; omega
  refine CallW.eq (enterW (pu0 _) (pr0 _ rfl) fn26 rfl ok26 (by simp) fun F hn hs => ?_)
  have s0 := hs 0
  clear hs
  simp only [List.getElem?_cons_zero, Option.getD_some] at s0
  simp [s0, hh.at_, none63 hh, ex0, hw]
end Go.Proofs.YtedonhemfhfbaaaGreat.mod

namespace Go.Proofs.YtedonhemfhfbaaaGreat.mod
open Go Go.Am
set_option linter.unusedVariables false
set_option linter.unusedSimpArgs false

theorem u64_nat {n : Nat} (h : n < 18446744073709551616) : IntKind.u64.wrap (n : Int) = (n : Int) := by
  simp [IntKind.wrap, IntKind.bits, IntKind.signed]; omega
theorem u64_succ {n : Nat} (h : n < 18446744073709551615) : IntKind.u64.wrap ((n : Int) + 1) = (n : Int) + 1 := by
  simp [IntKind.wrap, IntKind.bits, IntKind.signed]; omega
theorem u64_pred {n : Nat} (h : n < 18446744073709551615) : IntKind.u64.wrap ((n : Int) + 1 - 1) = (n : Int) := by
  simp [IntKind.wrap, IntKind.bits, IntKind.signed]; omega
theorem fn13 : C0.fns.get 13 = some Tryz.f13 := by kernel_rfl
theorem ok13 : codeOk C0 Tryz.f13.ntmps (Tryz.f13.body.getD .skip) = true := by kernel_rfl
section
variable {S : AS} {h : Nat} {v : AV} {L : List Kept} {d : Nat}
theorem HistAt.len (hh : HistAt S h v L d) : sLen v = L.length := hh.gw.1.len_flat encK_len (by omega)
theorem next13 (hh : HistAt S h v L d) {Q : AV → AS → Prop} : CallW C0 13 [.ptr h 0 0 3] S Q = Q (.int .u64 ((L.length + 1 : Nat) : Int)) S := by
  have h2 := hh.le
  have hw := u64_nat (n := L.length) (by omega)
  have hw2 := u64_succ (n := L.length) (by omega)
  have u1 := hh.gw.1.sl
  have u2 := hh.len
  refine CallW.eq (enterW (pu0 _) (pr0 _ rfl) fn13 rfl ok13 (by simp) fun F hn hs => ?_)
  have s0 := hs 0
  clear hs
  simp only [List.getElem?_cons_zero, Option.getD_some] at s0
  simp [s0, hh.at_, none63 hh, ex0, u1, u2, hw, hw2]
theorem bld40 {u : AV} {cs : List AV} {T : AS} (hu : Sl T u 5 cs) (k : List Nat) : buildA C0 40 [(0, .str k), (1, u)] = some (.agg [.str k, u]) := by
  rcases hu.cases with rfl | ⟨_, _, _, _, _, _, rfl⟩ <;> kernel_rfl
theorem bld42 (n t : Int) (k : List Nat) (u : AV) : buildA C0 42 [(0, .int .u64 n), (1, .int .u64 t), (2, .agg [.str k, u])] = some (.agg [.int .u64 n, .int .u64 t, .str k, u]) := by kernel_rfl
theorem bld42z : buildA C0 42 [] = some (.agg [.int .u64 0, .int .u64 0, .str [], .nils]) := by kernel_rfl
theorem item_no (hh : HistAt S h v L d) {n : Nat} (hn : n < 1 ∨ L.length < n) : CallW C0 14 [.ptr h 0 0 3, .int .u64 n] S fun r T => r = .tuple [.agg [.int .u64 0, .int .u64 0, .str [], .nils], .int .i64 0, .bool false] ∧ Sub S T := by
  have h2 := hh.le
  have hw := u64_nat (n := L.length) (by omega)
  have u1 := hh.gw.1.sl
  have u2 := hh.len
  have hlt := hh.lt
  have nn : HistAt ⟨S.h.set S.next (.row [.int .u64 0, .int .u64 0, .str [], .nils] 0 0 false 42), S.next + 1⟩ h v L d := by
    have hs : Sub S ⟨S.h.set S.next (.row [.int .u64 0, .int .u64 0, .str [], .nils] 0 0 false 42), S.next + 1⟩ := sub1
    have hb : ∀ id, bnd v = id + 1 → id < S.next := fun id e => by have := hh.gw.1.old; omega
    exact ⟨Nat.lt_succ_of_lt hlt, by rw [hs.h _ hlt]; exact hh.at_, hh.gw.agree (fun id e => hs.h id (hb id e)) hs.next, fun k hk => (hh.att k hk).sub hs, hh.apart, hh.self, hh.dur, hh.le⟩
  refine enterW (pu0 _) (pr0 _ rfl) fn14 rfl ok14 (by simp) fun F hn2 hs => ?_
  have s0 := hs 0
  have s1 := hs 1
  clear hs
  simp only [List.getElem?_cons_zero, List.getElem?_cons_succ, Option.getD_some] at s0 s1
  by_cases h1 : n < 1
  · have h1' : (n : Int) < 1 := by omega
    simp [s0, s1, hh.at_, none63 nn, ex0, u1, u2, hw, h1', bld42z, ne_lt hlt, sub1s]
  · have h1' : ¬ (n : Int) < 1 := by omega
    have h3 : (L.length : Int) < n := by omega
    simp [s0, s1, hh.at_, none63 nn, ex0, u1, u2, hw, h1', h3, bld42z, ne_lt hlt, sub1s]
theorem HistAt.sub {T : AS} (hh : HistAt S h v L d) (hs : Sub S T) : HistAt T h v L d :=
  have hb : ∀ id, bnd v = id + 1 → id < S.next := fun id e => by have := hh.gw.1.old; omega
  ⟨Nat.lt_of_lt_of_le hh.lt hs.next, by rw [hs.h _ hh.lt]; exact hh.at_, hh.gw.agree (fun id e => hs.h id (hb id e)) hs.next, fun k hk => (hh.att k hk).sub hs, hh.apart, hh.self, hh.dur, hh.le⟩
theorem nt14 : Tryz.f14.ntmps = 47 := by kernel_rfl
set_option maxRecDepth 20000 in
theorem item_yes (hh : HistAt S h v L d) {n : Nat} {k : Kept} (hk : L[n]? = some k) : CallW C0 14 [.ptr h 0 0 3, .int .u64 ((n + 1 : Nat) : Int)] S fun r T =>
    ∃ u', r = .tuple [.agg [.int .u64 ((n + 1 : Nat) : Int), .int .u64 k.time, .str k.key, u'], .int .i64 k.state, .bool true] ∧ AttsAt T u' k.atts ∧ (bnd u' = 0 ∨ S.next < bnd u') ∧ Sub S T := by
  have h2 := hh.le
  have hnl : n < L.length := (List.getElem?_eq_some_iff.1 hk).1
  have hw := u64_nat (n := L.length) (by omega)
  have hp := u64_nat (n := n) (by omega)
  have u1 := hh.gw.1.sl
  have u2 := hh.len
  have hlt := hh.lt
  have nn := hh.sub (sub1 (o := .row [.int .u64 0, .int .u64 0, .str [], .nils] 0 0 false 42))
  have hkm : k ∈ L := List.mem_of_getElem? hk
  have ld := loadT_el (cx := C0) (e := 142) nn.gw.1 encK_len (by omega) hk ag142 sz142
  have hS2 : Sub S ⟨((S.h.set S.next (.row [.int .u64 0, .int .u64 0, .str [], .nils] 0 0 false 42)).set (S.next + 1) (.row [.int .u64 0, .str [], .nils, .int .i64 0] 0 0 false 142)).set (S.next + 1) (.row (encK k) 0 0 false 142), S.next + 2⟩ := sub2.set _ _ (Nat.le_succ _) _ (Nat.le_refl _)
  have ha := (hh.att k hkm).sub hS2
  have hal : sLen k.u = k.atts.length := ha.sl.len_flat encA_len (by omega)
  obtain ⟨u', T, ⟨hT, hsl, _, _, hb⟩, e⟩ := (clone75 ha.sl (by have := ha.le; omega)).ex
  have g0 : T.h.get (S.next + 1) = some (.row (encK k) 0 0 false 142) := by rw [hT.h _ (Nat.lt_succ_self _)]; exact get_set_same _ _ _
  have g1 : T.h.get S.next = some (.row [.int .u64 0, .int .u64 0, .str [], .nils] 0 0 false 42) := by
    rw [hT.h _ (show S.next < S.next + 2 by omega)]; simp only [get_set_ne _ _ (show S.next ≠ S.next + 1 by omega)]; exact get_set_same _ _ _
  have c1 : ¬ ((n : Int) + 1 < 1) := by omega
  have c2 : ¬ ((L.length : Int) < (n : Int) + 1) := by omega
  refine enterW (pu0 _) (pr0 _ rfl) fn14 rfl ok14 (by simp) fun F hn2 hs => ?_
  rw [nt14] at hn2
  have s0 := hs 0
  have s1 := hs 1
  clear hs
  have hku := (hh.att k hkm).sl.cells
  simp only [List.getElem?_cons_zero, List.getElem?_cons_succ, Option.getD_some] at s0 s1
  simp only [encK] at ld e g0
  simp [s0, s1, hh.at_, none63 nn, ex0, u1, u2, hw, hp, c1, c2, hnl, ld, ne_lt hlt, hn2]
  refine draws [.p, .p, .r 0 1, .p, .p, .r 0 1, .p, .p, .r 0 0, .e [], .p, .p, .p, .r 1 1, .e [], .p, .p] (n := 47) (by kernel_rfl) (by simp [hn2]) ?_
  simp [s0, s1, g0, g1, e, ex0, hsl.cells, hsl.np, hku, bld40 hsl, bld42, okW_of (hh.att k hkm).sl.ok, okW_of hsl.ok]
  have hb2 : bnd u' = 0 ∨ S.next + 2 < bnd u' := hb
  refine ⟨⟨hsl.beside (by omega) (Nat.le_refl _), (hh.att k hkm).le⟩, by omega, (hS2.trans hT).set _ _ (Nat.le_refl _) _ (Nat.le_refl _)⟩
end
end Go.Proofs.YtedonhemfhfbaaaGreat.mod

namespace Go.Proofs.YtedonhemfhfbaaaGreat.mod
open Go Go.Am
set_option linter.unusedVariables false
set_option linter.unusedSimpArgs false
theorem hmatches {S : AS} {h : Nat} {v p : AV} {L : List Kept} {d n : Nat} {k : Kept} {cs : List Con} (hh : HistAt S h v L d) (hp : PredAt S p cs) (hk : L[n]? = some k) :
    CallW C0 85 [.ptr h 0 0 3, p, .int .u64 ((n + 1 : Nat) : Int)] S fun r T => r = .bool (matchB cs k.atts) ∧ Sub S T := by
  have h2 := hh.le
  have hnl : n < L.length := (List.getElem?_eq_some_iff.1 hk).1
  have hw := u64_nat (n := n) (by omega)
  have u1 := hh.gw.1.sl
  have u2 := hh.len
  have hkm : k ∈ L := List.mem_of_getElem? hk
  have hpp := isP_pAt (k := n) u1 (by rw [u2]; exact hnl)
  have ld := loadT_ela (cx := C0) (e := 40) (o := 1) (n' := 2) hh.gw.1 encK_len (by omega) hk (by omega) ag40 (by kernel_rfl)
  obtain ⟨r, T, ⟨rfl, hT⟩, e⟩ := (matches_ (key := k.key) hp (hh.att k hkm)).ex
  refine enterW (pu0 _) (pr0 _ rfl) fn85 rfl ok85 (by simp) fun F hn hs => ?_
  have s0 := hs 0
  have s1 := hs 1
  have s2 := hs 2
  clear hs
  simp only [List.getElem?_cons_zero, List.getElem?_cons_succ, Option.getD_some] at s0 s1 s2
  simp [encK] at ld
  simp [s0, s1, s2, hh.at_, ex0, u1, u2, hw, hnl, fieldP_add hpp, ld, e, hT]
end Go.Proofs.YtedonhemfhfbaaaGreat.mod

namespace Go.Proofs.YtedonhemfhfbaaaGreat.mod
open Go Go.Am
set_option linter.unusedVariables false
set_option linter.unusedSimpArgs false
theorem bld140 : buildA C0 140 [(0, .bool true)] = some (.agg [.bool true, .nils, .int .i64 0]) := by kernel_rfl
theorem newHist {S : AS} : CallW C0 27 [] S fun r T => r = .ptr S.next 0 0 3 ∧ HistAt T S.next .nils [] 0 ∧ Sub S T := by
  refine enterW (pu0 _) (pr0 _ rfl) fn27 rfl ok27 (by simp) fun F hn hs => ?_
  simp [bld140]
  exact ⟨⟨Nat.lt_succ_self _, get_set_same _ _ _, Gw.nil, fun k hk => (by cases hk), fun k hk => (by cases hk), by simp [bnd], Nat.le_refl _, by simp⟩, sub1⟩
end Go.Proofs.YtedonhemfhfbaaaGreat.mod

namespace Go.Proofs.YtedonhemfhfbaaaGreat.mod
open Go Go.Am
set_option linter.unusedVariables false
set_option linter.unusedSimpArgs false
theorem nt30 : Tryz.f30.ntmps = 36 := by kernel_rfl
theorem answer_yes {S : AS} {h : Nat} {v : AV} {L : List Kept} {d : Nat} (hh : HistAt S h v L d) (hd : d < L.length) :
    CallW C0 30 [.ptr h 0 0 3, .int .u64 ((d + 1 : Nat) : Int)] S fun r T => r = .bool true ∧ T = ⟨S.h.set h (.row [.bool true, v, .int .i64 ((d : Int) + 1)] 0 0 false 140), S.next⟩ := by
  have h2 := hh.le
  have hw := u64_nat (n := d) (by omega)
  have hw2 := u64_succ (n := d) (by omega)
  have hw3 := wrap_succ (i := d) (by omega)
  have u1 := hh.gw.1.sl
  have u2 := hh.len
  have c1 : ¬ ((d : Int) = L.length) := by omega
  refine enterW (pu0 _) (pr0 _ rfl) fn30 rfl ok30 (by simp) fun F hn hs => ?_
  rw [nt30] at hn
  have s0 := hs 0
  have s1 := hs 1
  clear hs
  simp only [List.getElem?_cons_zero, List.getElem?_cons_succ, Option.getD_some] at s0 s1
  simp at hw3
  simp [s0, s1, hn]
  refine draws [.p, .e [], .p, .p, .p, .p, .r 0 0, .p, .p, .p, .r 0 0, .r 0 0, .p, .p, .p, .p, .p, .p, .p, .r 0 0, .p, .p, .p, .p] (n := 36) (by kernel_rfl) (by simp [hn]) ?_
  simp [s0, s1, hh.at_, none63 hh, ex0, u1, u2, hw, hw2, hw3, c1, hd]
end Go.Proofs.YtedonhemfhfbaaaGreat.mod

namespace Go.Proofs.YtedonhemfhfbaaaGreat.mod
open Go Go.Am
set_option linter.unusedVariables false
set_option linter.unusedSimpArgs false
theorem HistAt.answer {S : AS} {h : Nat} {v : AV} {L : List Kept} {d : Nat} (hh : HistAt S h v L d) (hd : d < L.length) :
    HistAt ⟨S.h.set h (.row [.bool true, v, .int .i64 ((d : Int) + 1)] 0 0 false 140), S.next⟩ h v L (d + 1) :=
  ⟨hh.lt, get_set_same _ _ _, hh.gw.agree (fun id e => get_set_ne _ _ (fun e2 => hh.self (by rw [e, e2]))) (Nat.le_refl _),
    fun k hk => ⟨(hh.att k hk).sl.beside (hh.apart k hk).1 (Nat.le_refl _), (hh.att k hk).le⟩, hh.apart, hh.self, hd, hh.le⟩
end Go.Proofs.YtedonhemfhfbaaaGreat.mod
