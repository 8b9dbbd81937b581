/-
  The context in which the numbers' sort is walked, and the facts of types that simp wants.
  slices.Sort at numbers: rows of numbers in memory; less; two places turned.
  slices.insertionSortOrdered, slices.reverseRangeOrdered at numbers.
  slices.reverseRangeOrdered, siftDownOrdered, heapSortOrdered at numbers.
  slices.heapSortOrdered at numbers.
  slices.partitionOrdered at numbers.
-/
import Derived.Test.YtgeghppdhjlbiaaGreatDoorLaid
import Derived.Test.YtgeghppdhjlbiaaGreatDoorAmWide
import Derived.Test.YtgeghppdhjlbiaaGreatDoorAmCut
import Derived.Sort.AssemblyPlain
namespace Go.Proofs.YtgeghppdhjlbiaaGreatDoor.mod
open Go Go.Am Go.Proofs.YtgeghppdhjlbiaaGreatDoor.laid
set_option linter.unusedVariables false
set_option linter.unusedSimpArgs false

noncomputable abbrev A0 : Am.Ask := { eqs := laid.A0.eqs, exts := laid.A0.exts }
noncomputable abbrev C0 : Am.Cx := Am.mkCx Tryz.prog A0
theorem ex0 (f : Nat) (h1 : (f == 303 || f == 319) = false) : C0.exts.get f = none := by
  simp only [Bool.or_eq_false_iff, beq_eq_false_iff_ne] at h1
  have e : C0.exts = (((.leaf : T Xf).set 303 .cmpstr).set 319 .idxByte) ∨ C0.exts = (((.leaf : T Xf).set 319 .idxByte).set 303 .cmpstr) := by
    first | exact .inl (by kernel_rfl) | exact .inr (by kernel_rfl)
  rcases e with e | e <;> rw [e] <;> simp [h1.1, h1.2, get_leaf]
theorem pr0 (f : Nat) (h : true = true) : C0.prims.get f = none := get_leaf f
theorem pu0 (f : Nat) : C0.pures.get f = none := get_leaf f
@[simp] theorem st88 : slT C0 88 = some (38, 1, 8) := by kernel_rfl
@[simp] theorem ag75 : aggOf C0 75 = some false := by kernel_rfl
@[simp] theorem sz75 : szOf C0 75 = some 1 := by kernel_rfl
@[simp] theorem ag88 : aggOf C0 88 = some false := by kernel_rfl
@[simp] theorem sz88 : szOf C0 88 = some 1 := by kernel_rfl
@[simp] theorem un88 : und C0 88 = some (.slice 38) := by kernel_rfl
@[simp] theorem ag38 : aggOf C0 38 = some false := by kernel_rfl
@[simp] theorem sz38 : szOf C0 38 = some 1 := by kernel_rfl
@[simp] theorem cv161_169 : convT C0 161 169 = some .u32 := by kernel_rfl
@[simp] theorem sz3 : szOf C0 3 = some 1 := by kernel_rfl
@[simp] theorem ze3 : zeroOf C0 3 = some (.int .i64 0) := by kernel_rfl
@[simp] theorem ag3 : aggOf C0 3 = some false := by kernel_rfl
@[simp] theorem cv169_5 : convT C0 169 5 = some .u8 := by kernel_rfl
@[simp] theorem cv5_3 : convT C0 5 3 = some .i64 := by kernel_rfl
@[simp] theorem cv38_5 : convT C0 38 5 = some .u8 := by kernel_rfl
theorem okW_undef : okW .undef = true := rfl
theorem sub1 {S : AS} {o : AObj} : Sub S ⟨S.h.set S.next o, S.next + 1⟩ := (Sub.refl S).set _ _ (Nat.le_refl _) _ (Nat.le_succ _)
theorem sub1s {S : AS} {o o' : AObj} : Sub S ⟨(S.h.set S.next o).set S.next o', S.next + 1⟩ := sub1.set _ _ (Nat.le_refl _) _ (Nat.le_refl _)
end Go.Proofs.YtgeghppdhjlbiaaGreatDoor.mod

namespace Go.Proofs.YtgeghppdhjlbiaaGreatDoor.mod
open Go Go.Am
set_option linter.unusedVariables false
set_option linter.unusedSimpArgs false

theorem fn90 : C0.fns.get 90 = some Tryz.f90 := by kernel_rfl
theorem ok90 : codeOk C0 Tryz.f90.ntmps (Tryz.f90.body.getD .skip) = true := by kernel_rfl
theorem fn151 : C0.fns.get 151 = some Tryz.f151 := by kernel_rfl
theorem ok151 : codeOk C0 Tryz.f151.ntmps (Tryz.f151.body.getD .skip) = true := by kernel_rfl
theorem fn152 : C0.fns.get 152 = some Tryz.f152 := by kernel_rfl
theorem ok152 : codeOk C0 Tryz.f152.ntmps (Tryz.f152.body.getD .skip) = true := by kernel_rfl
theorem fn213 : C0.fns.get 213 = some Tryz.f213 := by kernel_rfl
theorem ok213 : codeOk C0 Tryz.f213.ntmps (Tryz.f213.body.getD .skip) = true := by kernel_rfl
theorem fn214 : C0.fns.get 214 = some Tryz.f214 := by kernel_rfl
theorem ok214 : codeOk C0 Tryz.f214.ntmps (Tryz.f214.body.getD .skip) = true := by kernel_rfl
theorem fn215 : C0.fns.get 215 = some Tryz.f215 := by kernel_rfl
theorem ok215 : codeOk C0 Tryz.f215.ntmps (Tryz.f215.body.getD .skip) = true := by kernel_rfl
theorem fn216 : C0.fns.get 216 = some Tryz.f216 := by kernel_rfl
theorem ok216 : codeOk C0 Tryz.f216.ntmps (Tryz.f216.body.getD .skip) = true := by kernel_rfl
theorem fn217 : C0.fns.get 217 = some Tryz.f217 := by kernel_rfl
theorem ok217 : codeOk C0 Tryz.f217.ntmps (Tryz.f217.body.getD .skip) = true := by kernel_rfl
theorem fn218 : C0.fns.get 218 = some Tryz.f218 := by kernel_rfl
theorem ok218 : codeOk C0 Tryz.f218.ntmps (Tryz.f218.body.getD .skip) = true := by kernel_rfl
theorem fn91 : C0.fns.get 91 = some Tryz.f91 := by kernel_rfl
theorem ok91 : codeOk C0 Tryz.f91.ntmps (Tryz.f91.body.getD .skip) = true := by kernel_rfl
theorem fn219 : C0.fns.get 219 = some Tryz.f219 := by kernel_rfl
theorem ok219 : codeOk C0 Tryz.f219.ntmps (Tryz.f219.body.getD .skip) = true := by kernel_rfl
theorem fn220 : C0.fns.get 220 = some Tryz.f220 := by kernel_rfl
theorem ok220 : codeOk C0 Tryz.f220.ntmps (Tryz.f220.body.getD .skip) = true := by kernel_rfl
theorem fn222 : C0.fns.get 222 = some Tryz.f222 := by kernel_rfl
theorem ok222 : codeOk C0 Tryz.f222.ntmps (Tryz.f222.body.getD .skip) = true := by kernel_rfl
theorem fn270 : C0.fns.get 270 = some Tryz.f270 := by kernel_rfl
theorem ok270 : codeOk C0 Tryz.f270.ntmps (Tryz.f270.body.getD .skip) = true := by kernel_rfl
theorem fn271 : C0.fns.get 271 = some Tryz.f271 := by kernel_rfl
theorem ok271 : codeOk C0 Tryz.f271.ntmps (Tryz.f271.body.getD .skip) = true := by kernel_rfl
theorem fn272 : C0.fns.get 272 = some Tryz.f272 := by kernel_rfl
theorem ok272 : codeOk C0 Tryz.f272.ntmps (Tryz.f272.body.getD .skip) = true := by kernel_rfl
theorem fn273 : C0.fns.get 273 = some Tryz.f273 := by kernel_rfl
theorem ok273 : codeOk C0 Tryz.f273.ntmps (Tryz.f273.body.getD .skip) = true := by kernel_rfl
theorem fn274 : C0.fns.get 274 = some Tryz.f274 := by kernel_rfl
theorem ok274 : codeOk C0 Tryz.f274.ntmps (Tryz.f274.body.getD .skip) = true := by kernel_rfl
theorem fn153 : C0.fns.get 153 = some Tryz.f153 := by kernel_rfl
theorem ok153 : codeOk C0 Tryz.f153.ntmps (Tryz.f153.body.getD .skip) = true := by kernel_rfl
theorem fn304 : C0.fns.get 304 = some Tryz.f304 := by kernel_rfl
theorem ok304 : codeOk C0 Tryz.f304.ntmps (Tryz.f304.body.getD .skip) = true := by kernel_rfl
@[simp] theorem cv3_161 : convT C0 3 161 = some .u64 := by kernel_rfl
@[simp] theorem cv161_3 : convT C0 161 3 = some .i64 := by kernel_rfl
@[simp] theorem cv3_304 : convT C0 3 304 = some .u64 := by kernel_rfl
@[simp] theorem sz304 : szOf C0 304 = some 1 := by kernel_rfl
@[simp] theorem ze304 : zeroOf C0 304 = some (.int .u64 0) := by kernel_rfl
@[simp] theorem ag304 : aggOf C0 304 = some false := by kernel_rfl

/-! ### Rows of numbers -/
def numL (l : List Nat) : List AV := l.map fun n : Nat => AV.int .u64 (n : Int)
/-- A slice of numbers that is its whole row. -/
structure NumAt (S : AS) (v : AV) (d : Array Nat) : Prop where
  gw : Gw S v 1 38 (numL d.toList)
  whole : ∀ id cells low top frz ty, bnd v = id + 1 → S.h.get id = some (.row cells low top frz ty) → cells.length = d.size
def nth (d : Array Nat) (i : Nat) : Nat := d[i]!
def ltN (x y : Nat) : Bool := decide (x < y)
theorem swo_ltN : Sort.SWO ltN where
  irrefl x := by simp [ltN]
  trans x y z h1 h2 := by simp only [ltN, decide_eq_true_eq] at *; omega
  ntrans x y z h1 h2 := by simp only [ltN, decide_eq_false_iff_not] at *; omega
/-- Only the row changes. -/
abbrev KeepV (v : AV) (S T : AS) : Prop := Keep (fun id => bnd v = id + 1) S T
section
variable {S T : AS} {v : AV} {d : Array Nat}
theorem NumAt.agree (h : NumAt S v d) (hs : ∀ id, bnd v = id + 1 → T.h.get id = S.h.get id) (hn : S.next ≤ T.next) : NumAt T v d :=
  ⟨h.gw.agree hs hn, fun id cells low top frz ty hb hr => h.whole id cells low top frz ty hb (by rw [← hs id hb]; exact hr)⟩
theorem NumAt.sub (h : NumAt S v d) (hs : Sub S T) : NumAt T v d := h.agree (fun id e => hs.h id (by have := h.gw.1.old; omega)) hs.next
theorem NumAt.len (h : NumAt S v d) : sLen v = d.size := by rw [h.gw.1.len1]; simp [numL]
theorem NumAt.sl (h : NumAt S v d) : isSl 1 v = true := h.gw.1.sl
theorem NumAt.ok (h : NumAt S v d) : okW v = true := okW_of h.gw.1.ok
theorem NumAt.ld (h : NumAt S v d) {i : Nat} (hi : i < d.size) : loadT C0 S 38 (pAt v i) = some (.int .u64 (nth d i : Nat)) := by
  refine loadT_sl h.gw.1 ?_ ag38
  unfold numL
  rw [List.getElem?_map]
  have : d.toList[i]? = some d[i]! := by
    rw [Array.getElem?_toList, getElem!_pos d i hi]
    exact Array.getElem?_eq_getElem hi
  rw [this]; rfl
theorem pAt_add {v : AV} {k : Nat} : addP (pAt v k) 0 = pAt v k := by cases v <;> rfl
theorem wrV_len {e : Nat} {cs : List AV} {x : AV} {i : Nat} (h : Gw S v 1 e cs) (hi : i < sLen v) (hw : wrV S (pAt v i) [x] = some T) {id : Nat} {cells : List AV} {low top : Nat} {frz : Bool} {ty : Nat} (hb : bnd v = id + 1) (hr : T.h.get id = some (.row cells low top frz ty)) :
    ∃ cells' low' top' frz' ty', S.h.get id = some (.row cells' low' top' frz' ty') ∧ cells.length = cells'.length := by
  obtain ⟨h1, h2⟩ := h
  rcases h2 with rfl | ⟨id1, g, off, n, lim, cap, rfl, hc, hlt, cells1, low1, top1, hg, hl, htq⟩
  · simp [sLen] at hi
  · subst htq
    simp only [sLen] at hi
    obtain ⟨id', g', off', n', lim', cap', e1, cells', low', top', frz', ty', hg', k1, k2, k3, k4⟩ := rdS_some h1 (k := i) hi
    cases e1
    rw [hg] at hg'
    cases hg'
    have hlen := h1.len
    simp only [sLen] at hlen
    have hcl : off + n * 1 ≤ cells1.length := by
      have := congrArg List.length k4
      rw [List.length_take, List.length_drop, hlen] at this
      omega
    obtain rfl : id1 = id := by simpa [bnd] using hb
    have hsp : splice (off + i * 1) cells1 [x] = cells1.set (off + i * 1) x := by
      rw [splice_eq _ _ _ (by omega), List.set_eq_take_append_cons_drop, if_pos (by omega)]
      simp
    simp only [pAt, wrV_ptr, wr_at, hg, wrO_row, List.length_singleton, hsp] at hw
    rw [if_pos (by refine ⟨?_, by omega, ?_⟩ <;> trivial)] at hw
    cases hw
    rw [get_set_same] at hr
    cases hr
    exact ⟨_, _, _, _, _, hg, List.length_set⟩
theorem NumAt.put (h : NumAt S v d) {i : Nat} (hi : i < d.size) (x : Nat) : ∃ T, wrV S (pAt v i) [.int .u64 (x : Int)] = some T ∧ NumAt T v (d.setIfInBounds i x) ∧ KeepV v S T ∧ T.next = S.next := by
  obtain ⟨T, e, hg, hs, hn⟩ := h.gw.putc (x := .int .u64 (x : Int)) (i := i) (o := 0) (by rw [h.len]; exact hi) (by omega)
  rw [pAt_add] at e
  refine ⟨T, e, ⟨?_, fun id cells low top frz ty hb hr => ?_⟩, ⟨fun id _ ha => hs id (fun e => ha e.symm), by omega⟩, hn⟩
  rotate_left
  · obtain ⟨cells', low', top', frz', ty', q1, q2⟩ := wrV_len h.gw (by rw [h.len]; exact hi) e hb hr
    rw [q2, Array.size_setIfInBounds]
    exact h.whole id cells' low' top' frz' ty' hb q1
  have : (numL d.toList).set (i * 1 + 0) (.int .u64 (x : Int)) = numL (d.setIfInBounds i x).toList := by
    rw [Nat.mul_one, Nat.add_zero, Array.toList_setIfInBounds]
    unfold numL
    rw [List.map_set]
  rw [← this]
  exact hg
theorem NumAt.swap (h : NumAt S v d) {i j : Nat} (hi : i < d.size) (hj : j < d.size) : ∃ T1 T2, wrV S (pAt v i) [.int .u64 (nth d j : Nat)] = some T1 ∧ wrV T1 (pAt v j) [.int .u64 (nth d i : Nat)] = some T2 ∧ NumAt T2 v (Sort.swp d i j) ∧ KeepV v S T2 ∧ T2.next = S.next := by
  obtain ⟨T1, e1, h1, k1, n1⟩ := h.put hi d[j]!
  obtain ⟨T2, e2, h2, k2, n2⟩ := h1.put (i := j) (by simpa using hj) d[i]!
  exact ⟨T1, T2, e1, e2, h2, k1.trans k2, by omega⟩
theorem nan_sort {x : Nat} {Q : AV → AS → Prop} : CallW C0 153 [.int .u64 x] S Q = Q (.bool false) S := by
  refine CallW.eq (enterW (pu0 _) (pr0 _ rfl) fn153 rfl ok153 (by simp) fun F hn hs => ?_)
  have s0 := hs 0
  clear hs
  simp only [List.getElem?_cons_zero, Option.getD_some] at s0
  simp [s0]
theorem less_sort {x y : Nat} {Q : AV → AS → Prop} : CallW C0 91 [.int .u64 x, .int .u64 y] S Q = Q (.bool (ltN x y)) S := by
  refine CallW.eq (enterW (pu0 _) (pr0 _ rfl) fn91 rfl ok91 (by simp) fun F hn hs => ?_)
  have s0 := hs 0
  have s1 := hs 1
  clear hs
  simp only [List.getElem?_cons_zero, List.getElem?_cons_succ, Option.getD_some] at s0 s1
  simp [s0, s1, nan_sort, ex0, ltN]
end
end Go.Proofs.YtgeghppdhjlbiaaGreatDoor.mod

namespace Go.Proofs.YtgeghppdhjlbiaaGreatDoor.mod
open Go Go.Am
set_option linter.unusedVariables false
set_option linter.unusedSimpArgs false

section
variable {S : AS} {v : AV} {d : Array Nat}
theorem i64_add {n : Nat} (h : n < 9223372036854775807) : IntKind.i64.wrap ((n : Int) + 1) = (n : Int) + 1 := IntWalk.i64_in _ (by omega)
theorem i64_sub1 {n : Nat} (h : n < 9223372036854775807) : IntKind.i64.wrap ((n : Int) - 1) = (n : Int) - 1 := IntWalk.i64_in _ (by omega)
theorem nt213 : Tryz.f213.ntmps = 49 := by kernel_rfl
def insH (S : AS) (v : AV) (d : Array Nat) (a b k : Nat) (F' : Fr) (S' : AS) : Prop :=
  ∃ (i : Nat) (d' : Array Nat), NumAt S' v d' ∧ KeepV v S S' ∧ d'.size = d.size ∧ Sort.insOuter ltN a b i d' = Sort.insertionSort ltN d a b ∧ sl F' 0 = v ∧ sl F' 1 = .int .i64 a ∧ sl F' 2 = .int .i64 b ∧ sl F' 6 = .int .i64 i ∧ F'.n = 49 ∧ i ≤ b + 1 ∧ k = b + 1 - i
theorem insH_mk {S : AS} {v : AV} {d : Array Nat} {a b k : Nat} {F' : Fr} {S' : AS} (i : Nat) (d' : Array Nat) (h1 : NumAt S' v d') (h2 : KeepV v S S') (h3 : d'.size = d.size) (h4 : Sort.insOuter ltN a b i d' = Sort.insertionSort ltN d a b) (h5 : sl F' 0 = v) (h6 : sl F' 1 = .int .i64 a) (h7 : sl F' 2 = .int .i64 b) (h8 : sl F' 6 = .int .i64 i) (h9 : F'.n = 49) (h10 : i ≤ b + 1) (h11 : k = b + 1 - i) : insH S v d a b k F' S' :=
  ⟨i, d', h1, h2, h3, h4, h5, h6, h7, h8, h9, h10, h11⟩
def inrH (S : AS) (v : AV) (d : Array Nat) (a b i : Nat) (R : Array Nat) (k : Nat) (F' : Fr) (S' : AS) : Prop :=
  ∃ (j : Nat) (d' : Array Nat), NumAt S' v d' ∧ KeepV v S S' ∧ d'.size = d.size ∧ Sort.insInner ltN a j d' = R ∧ sl F' 0 = v ∧ sl F' 1 = .int .i64 a ∧ sl F' 2 = .int .i64 b ∧ sl F' 6 = .int .i64 i ∧ sl F' 7 = .int .i64 j ∧ F'.n = 49 ∧ j ≤ i ∧ k = j
theorem inrH_mk {S : AS} {v : AV} {d : Array Nat} {a b i : Nat} {R : Array Nat} {k : Nat} {F' : Fr} {S' : AS} (j : Nat) (d' : Array Nat) (h1 : NumAt S' v d') (h2 : KeepV v S S') (h3 : d'.size = d.size) (h4 : Sort.insInner ltN a j d' = R) (h5 : sl F' 0 = v) (h6 : sl F' 1 = .int .i64 a) (h7 : sl F' 2 = .int .i64 b) (h8 : sl F' 6 = .int .i64 i) (h9 : sl F' 7 = .int .i64 j) (h10 : F'.n = 49) (h11 : j ≤ i) (h12 : k = j) : inrH S v d a b i R k F' S' :=
  ⟨j, d', h1, h2, h3, h4, h5, h6, h7, h8, h9, h10, h11, h12⟩
theorem insOuter_lt {a b i : Nat} {d : Array Nat} (h : i < b) : Sort.insOuter ltN a b i d = Sort.insOuter ltN a b (i + 1) (Sort.insInner ltN a i d) := by
  rw [Sort.insOuter, if_pos h]
theorem insOuter_ge {a b i : Nat} {d : Array Nat} (h : ¬ i < b) : Sort.insOuter ltN a b i d = d := by
  rw [Sort.insOuter, if_neg h]
theorem insInner_size (a : Nat) : ∀ (j : Nat) (d : Array Nat), (Sort.insInner ltN a j d).size = d.size
  | 0, d => rfl
  | j + 1, d => by
    rw [Sort.insInner]
    split
    · rw [insInner_size a j]; simp [Sort.swp]
    · rfl
set_option maxRecDepth 20000 in
theorem ins_sort (h : NumAt S v d) {a b : Nat} (hab : a ≤ b) (hb : b ≤ d.size) (hsz : d.size ≤ 1048576) : CallW C0 213 [v, .int .i64 a, .int .i64 b] S fun r T => r = .tuple [] ∧ NumAt T v (Sort.insertionSort ltN d a b) ∧ KeepV v S T := by
  refine enterW (pu0 _) (pr0 _ rfl) fn213 rfl ok213 (by simp) fun F hn hs => ?_
  rw [nt213] at hn
  have s0 := hs 0
  have s1 := hs 1
  have s2 := hs 2
  clear hs
  simp only [List.getElem?_cons_zero, List.getElem?_cons_succ, Option.getD_some] at s0 s1 s2
  have hw := i64_add (n := a) (by omega)
  simp [s0, s1, s2, hw]
  refine loopP_of (insH S v d a b) (b + 1 - (a + 1)) (insH_mk (a + 1) d h Keep.refl rfl rfl (by simp [s0]) (by simp [s1]) (by simp [s2]) (by simp) (by simp [hn]) (by omega) rfl) ?_
  clear s0 s1 s2 hn hw
  rintro k F' S' hn' ⟨i, d', h1, h2, h3, h4, s0, s1, s2, s6, hn, hi, hk⟩
  clear hn'
  have u2 := h1.len
  by_cases hib : i < b
  · rw [insOuter_lt hib] at h4
    simp [s0, s1, s2, s6, hib]
    refine loopP_of (inrH S v d a b i (Sort.insInner ltN a i d')) i (inrH_mk i d' h1 h2 h3 rfl (by simp [s0]) (by simp [s1]) (by simp [s2]) (by simp [s6]) (by simp) (by simp [hn]) (Nat.le_refl _) rfl) ?_
    clear s0 s1 s2 s6 hn
    rintro k2 F2 S2 hn2 ⟨j, d2, g1, g2, g3, g4, s0, s1, s2, s6, s7, hn, hj, hk2⟩
    clear hn2
    have w1 := g1.sl
    have w2 := g1.len
    have wk := g1.ok
    by_cases haj : a < j
    · obtain ⟨j', rfl⟩ : ∃ j', j = j' + 1 := ⟨j - 1, by omega⟩
      have l1 := g1.ld (i := j' + 1) (by omega)
      have l2 := g1.ld (i := j') (by omega)
      have hajI : (a : Int) < (j' : Int) + 1 := by omega
      have hwj : IntKind.i64.wrap ((j' : Int) + 1 - 1) = (j' : Int) := by rw [show (j' : Int) + 1 - 1 = j' by omega]; exact IntWalk.i64_in _ (by omega)
      have hwj' : IntKind.i64.wrap (j' : Int) = (j' : Int) := IntWalk.i64_in _ (by omega)
      have q1 : (j' : Int) + 1 < d2.size := by omega
      have q0 : (0 : Int) ≤ (j' : Int) + 1 := by omega
      have qt : ((j' : Int) + 1).toNat = j' + 1 := by omega
      have q2 : j' < d2.size := by omega
      have okv := g1.gw.1.ok
      simp at s7
      simp [s0, s1, s2, s6, s7]
      refine draws [.p, .p, .p, .p, .p, .p, .p, .r 0 0, .p, .p, .p, .p, .r 0 0, .e [], .p] (n := 49) (by kernel_rfl) (by simp [hn]) ?_
      replace g4 : (if j' + 1 > a && ltN (nth d2 (j' + 1)) (nth d2 j') then Sort.insInner ltN a j' (Sort.swp d2 (j' + 1) j') else d2) = Sort.insInner ltN a i d' := by rw [← g4, Sort.insInner]; rfl
      cases hl : ltN (nth d2 (j' + 1)) (nth d2 j') with
      | true =>
        rw [hl] at g4
        have hc : (decide (j' + 1 > a) && true) = true := by simp; omega
        rw [if_pos hc] at g4
        obtain ⟨T1, T2, e1, e2, t1, t2, t3⟩ := g1.swap (i := j' + 1) (j := j') (by omega) (by omega)
        simp [s0, s1, s2, s6, s7, hajI, w1, w2, wk, l1, l2, hwj, hwj', q0, q1, q2, qt, less_sort, hl, ex0, okv]
        refine draws [.p, .p, .p, .p, .p, .p, .p, .p, .p, .r 0 0, .p, .p, .p, .r 0 0, .p, .e [], .p, .e []] (n := 49) (by kernel_rfl) (by simp [hn]) ?_
        simp [s0, s1, s2, s6, s7, hajI, w1, w2, wk, l1, l2, hwj, hwj', q0, q1, q2, qt, e1, e2, okv]
        exact ⟨j', by omega, inrH_mk j' _ t1 (g2.trans t2) (by simp [Sort.swp, g3]) g4 (by simp [s0]) (by simp [s1]) (by simp [s2]) (by simp [s6]) (by simp) (by simp [hn]) (by omega) rfl⟩
      | false =>
        rw [hl] at g4
        rw [if_neg (by simp)] at g4
        have hwi := i64_add (n := i) (by omega)
        simp [s0, s1, s2, s6, s7, hajI, w1, w2, wk, l1, l2, hwj, hwj', q0, q1, q2, qt, less_sort, hl, ex0, okv]
        exact ⟨b + 1 - (i + 1), by omega, insH_mk (i + 1) _ (by rw [← g4]; exact g1) g2 (by rw [insInner_size]; exact h3) h4 (by simp [s0]) (by simp [s1]) (by simp [s2]) (by simp [hwi]) (by simp [hn]) (by omega) rfl⟩
    · have hajI : ¬ (a : Int) < j := by omega
      have hwi := i64_add (n := i) (by omega)
      have g4' : d2 = Sort.insInner ltN a i d' := by
        rw [← g4]
        cases j with
        | zero => rfl
        | succ j' =>
          rw [Sort.insInner]
          have : ¬ (j' + 1 > a) := haj
          simp [this]
      simp [s0, s1, s2, s6, s7]
      refine draws [.p, .p, .p, .p, .p, .p, .p, .r 0 0, .p, .p, .p, .p, .r 0 0, .e [], .p] (n := 49) (by kernel_rfl) (by simp [hn]) ?_
      simp [s0, s1, s2, s6, s7, hajI, okW_undef]
      exact ⟨b + 1 - (i + 1), by omega, insH_mk (i + 1) _ (by rw [← g4']; exact g1) g2 (by rw [insInner_size]; exact h3) h4 (by simp [s0]) (by simp [s1]) (by simp [s2]) (by simp [hwi]) (by simp [hn]) (by omega) rfl⟩
  · rw [insOuter_ge hib] at h4
    simp [s0, s1, s2, s6, hib]
    exact ⟨by rw [← h4]; exact h1, h2⟩
end
end Go.Proofs.YtgeghppdhjlbiaaGreatDoor.mod

namespace Go.Proofs.YtgeghppdhjlbiaaGreatDoor.mod
open Go Go.Am
set_option linter.unusedVariables false
set_option linter.unusedSimpArgs false

section
variable {S : AS} {v : AV} {d : Array Nat}
theorem swp_size' (d : Array Nat) (i j : Nat) : (Sort.swp d i j).size = d.size := by simp [Sort.swp]
theorem nt217 : Tryz.f217.ntmps = 32 := by kernel_rfl
def revH (S : AS) (v : AV) (d : Array Nat) (a b k : Nat) (F' : Fr) (S' : AS) : Prop :=
  ∃ (i j : Nat) (d' : Array Nat), NumAt S' v d' ∧ KeepV v S S' ∧ d'.size = d.size ∧ Sort.reverseLoop i j d' = Sort.reverseRange d a b ∧ sl F' 0 = v ∧ sl F' 6 = .int .i64 i ∧ sl F' 7 = .int .i64 j ∧ F'.n = 32 ∧ i ≤ b ∧ j < b ∧ k = j - i
theorem revH_mk {S : AS} {v : AV} {d : Array Nat} {a b k : Nat} {F' : Fr} {S' : AS} (i j : Nat) (d' : Array Nat) (h1 : NumAt S' v d') (h2 : KeepV v S S') (h3 : d'.size = d.size) (h4 : Sort.reverseLoop i j d' = Sort.reverseRange d a b) (h5 : sl F' 0 = v) (h6 : sl F' 6 = .int .i64 i) (h7 : sl F' 7 = .int .i64 j) (h8 : F'.n = 32) (h9 : i ≤ b) (h10 : j < b) (h11 : k = j - i) : revH S v d a b k F' S' :=
  ⟨i, j, d', h1, h2, h3, h4, h5, h6, h7, h8, h9, h10, h11⟩
set_option maxRecDepth 20000 in
theorem rev_sort (h : NumAt S v d) {a b : Nat} (hab : a < b) (hb : b ≤ d.size) (hsz : d.size ≤ 1048576) : CallW C0 217 [v, .int .i64 a, .int .i64 b] S fun r T => r = .tuple [] ∧ NumAt T v (Sort.reverseRange d a b) ∧ KeepV v S T := by
  refine enterW (pu0 _) (pr0 _ rfl) fn217 rfl ok217 (by simp) fun F hn hs => ?_
  rw [nt217] at hn
  have s0 := hs 0
  have s1 := hs 1
  have s2 := hs 2
  clear hs
  simp only [List.getElem?_cons_zero, List.getElem?_cons_succ, Option.getD_some] at s0 s1 s2
  obtain ⟨b', rfl⟩ : ∃ b', b = b' + 1 := ⟨b - 1, by omega⟩
  have hw : IntKind.i64.wrap ((b' : Int) + 1 - 1) = (b' : Int) := by rw [show (b' : Int) + 1 - 1 = b' by omega]; exact IntWalk.i64_in _ (by omega)
  have hw' : IntKind.i64.wrap (b' : Int) = (b' : Int) := IntWalk.i64_in _ (by omega)
  simp at s2
  simp [s0, s1, s2, hw, hw']
  refine loopP_of (revH S v d a (b' + 1)) (b' - a) (revH_mk a b' d h Keep.refl rfl (by rfl) (by simp [s0]) (by simp) (by simp) (by simp [hn]) (by omega) (by omega) rfl) ?_
  clear s0 s1 s2 hn hw hw'
  rintro k F' S' hn' ⟨i, j, d', h1, h2, h3, h4, s0, s6, s7, hn, hi, hj, hk⟩
  clear hn'
  have u1 := h1.sl
  have u2 := h1.len
  have wk := h1.ok
  have okv := h1.gw.1.ok
  by_cases hij : i < j
  · have l1 := h1.ld (i := i) (by omega)
    have l2 := h1.ld (i := j) (by omega)
    have q1 : i < d'.size := by omega
    have q2 : j < d'.size := by omega
    rw [Sort.reverseLoop, if_pos hij] at h4
    have hwi := i64_add (n := i) (by omega)
    have hwj : IntKind.i64.wrap ((j : Int) - 1) = ((j - 1 : Nat) : Int) := by rw [i64_sub1 (by omega)]; omega
    obtain ⟨T1, T2, e1, e2, t1, t2, t3⟩ := h1.swap (i := i) (j := j) (by omega) (by omega)
    simp [s0, s6, s7, hij]
    refine draws [.p, .p, .p, .p, .p, .p, .p, .r 0 0, .p, .p, .p, .r 0 0, .p, .e [], .p, .e []] (n := 32) (by kernel_rfl) (by simp [hn]) ?_
    simp [s0, s6, s7, u1, u2, wk, okv, l1, l2, q1, q2, e1, e2]
    exact ⟨j - 1 - (i + 1), by omega, revH_mk (i + 1) (j - 1) _ t1 (h2.trans t2) (by rw [swp_size']; exact h3) h4 (by simp [s0]) (by simp [hwi]) (by simp [hwj]) (by simp [hn]) (by omega) (by omega) rfl⟩
  · rw [Sort.reverseLoop, if_neg hij] at h4
    simp [s0, s6, s7, hij]
    exact ⟨by rw [← h4]; exact h1, h2⟩

/-! ### siftDownOrdered -/
theorem nt270 : Tryz.f270.ntmps = 76 := by kernel_rfl
def siftH (S : AS) (v : AV) (d : Array Nat) (hi first : Nat) (R : Array Nat) (k : Nat) (F' : Fr) (S' : AS) : Prop :=
  ∃ (root : Nat) (d' : Array Nat), NumAt S' v d' ∧ KeepV v S S' ∧ d'.size = d.size ∧ Sort.siftDown ltN hi first root d' = R ∧ sl F' 0 = v ∧ sl F' 2 = .int .i64 hi ∧ sl F' 3 = .int .i64 first ∧ sl F' 8 = .int .i64 root ∧ F'.n = 76 ∧ root ≤ hi ∧ k = hi - root
theorem siftH_mk {S : AS} {v : AV} {d : Array Nat} {hi first : Nat} {R : Array Nat} {k : Nat} {F' : Fr} {S' : AS} (root : Nat) (d' : Array Nat) (h1 : NumAt S' v d') (h2 : KeepV v S S') (h3 : d'.size = d.size) (h4 : Sort.siftDown ltN hi first root d' = R) (h5 : sl F' 0 = v) (h6 : sl F' 2 = .int .i64 hi) (h7 : sl F' 3 = .int .i64 first) (h8 : sl F' 8 = .int .i64 root) (h9 : F'.n = 76) (h10 : root ≤ hi) (h11 : k = hi - root) : siftH S v d hi first R k F' S' :=
  ⟨root, d', h1, h2, h3, h4, h5, h6, h7, h8, h9, h10, h11⟩
theorem sift_eq (hi first root : Nat) (d : Array Nat) : Sort.siftDown ltN hi first root d =
    if 2 * root + 1 ≥ hi then d else
    if 2 * root + 2 < hi ∧ ltN (nth d (first + (2 * root + 1))) (nth d (first + (2 * root + 2))) = true then
      (if ltN (nth d (first + root)) (nth d (first + (2 * root + 2))) = true then Sort.siftDown ltN hi first (2 * root + 2) (Sort.swp d (first + root) (first + (2 * root + 2))) else d)
    else (if ltN (nth d (first + root)) (nth d (first + (2 * root + 1))) = true then Sort.siftDown ltN hi first (2 * root + 1) (Sort.swp d (first + root) (first + (2 * root + 1))) else d) := by
  conv => lhs; rw [Sort.siftDown]
  by_cases h1 : 2 * root + 1 ≥ hi
  · simp only [h1, dite_true, if_true]
  · simp only [h1, dite_false, if_false]
    have e1 : first + (2 * root + 1) + 1 = first + (2 * root + 2) := by omega
    rw [e1]
    show (if (decide (2 * root + 1 + 1 < hi) && ltN (nth d (first + (2 * root + 1))) (nth d (first + (2 * root + 2)))) = true then
        if (!ltN (nth d (first + root)) (nth d (first + (2 * root + 2)))) = true then d else if _h2 : 2 * root + 2 < hi then Sort.siftDown ltN hi first (2 * root + 2) (Sort.swp d (first + root) (first + (2 * root + 2))) else d
      else if (!ltN (nth d (first + root)) (nth d (first + (2 * root + 1)))) = true then d else Sort.siftDown ltN hi first (2 * root + 1) (Sort.swp d (first + root) (first + (2 * root + 1)))) = _
    by_cases h2 : 2 * root + 2 < hi
    · have h2' : 2 * root + 1 + 1 < hi := by omega
      cases hl : ltN (nth d (first + (2 * root + 1))) (nth d (first + (2 * root + 2))) <;> cases hr : ltN (nth d (first + root)) (nth d (first + (2 * root + 2))) <;> cases hq : ltN (nth d (first + root)) (nth d (first + (2 * root + 1))) <;> simp [h2, h2']
    · have h2' : ¬ 2 * root + 1 + 1 < hi := by omega
      cases hq : ltN (nth d (first + root)) (nth d (first + (2 * root + 1))) <;> simp [h2, h2']
set_option maxRecDepth 20000 in
theorem sift_sort (h : NumAt S v d) {lo hi first : Nat} (hl : lo ≤ hi) (hb : first + hi ≤ d.size) (hsz : d.size ≤ 1048576) : CallW C0 270 [v, .int .i64 lo, .int .i64 hi, .int .i64 first] S fun r T => r = .tuple [] ∧ NumAt T v (Sort.siftDown ltN hi first lo d) ∧ KeepV v S T := by
  refine enterW (pu0 _) (pr0 _ rfl) fn270 rfl ok270 (by simp) fun F hn hs => ?_
  rw [nt270] at hn
  have s0 := hs 0
  have s1 := hs 1
  have s2 := hs 2
  have s3 := hs 3
  clear hs
  simp only [List.getElem?_cons_zero, List.getElem?_cons_succ, Option.getD_some] at s0 s1 s2 s3
  simp [s0, s1, s2, s3]
  refine loopP_of (siftH S v d hi first (Sort.siftDown ltN hi first lo d)) (hi - lo) (siftH_mk lo d h Keep.refl rfl rfl (by simp [s0]) (by simp [s2]) (by simp [s3]) (by simp) (by simp [hn]) hl rfl) ?_
  clear s0 s1 s2 s3 hn
  rintro k F' S' hn' ⟨root, d', h1, h2, h3, h4, s0, s2, s3, s8, hn, hr, hk⟩
  clear hn'
  have u1 := h1.sl
  have u2 := h1.len
  have wk := h1.ok
  have okv := h1.gw.1.ok
  rw [sift_eq] at h4
  obtain ⟨c, hc⟩ : ∃ c, c = 2 * root + 1 := ⟨_, rfl⟩
  have hc2 : 2 * root + 2 = c + 1 := by omega
  rw [hc2, ← hc] at h4
  have hwa : IntKind.i64.wrap (2 * (root : Int)) = 2 * (root : Int) := IntWalk.i64_in _ (by omega)
  have hwb : IntKind.i64.wrap (2 * (root : Int) + 1) = (c : Int) := by rw [hc]; rw [IntWalk.i64_in _ (by omega)]; omega
  have hwc := i64_add (n := c) (by omega)
  by_cases hch : c ≥ hi
  · rw [if_pos hch] at h4
    have hchI : (hi : Int) ≤ c := by omega
    simp [s0, s2, s3, s8, hwa, hwb, hchI]
    exact ⟨by rw [← h4]; exact h1, h2⟩
  · rw [if_neg hch] at h4
    have hchI : ¬ (hi : Int) ≤ c := by omega
    obtain ⟨x, hx⟩ : ∃ x, x = first + root := ⟨_, rfl⟩
    obtain ⟨y, hy⟩ : ∃ y, y = first + c := ⟨_, rfl⟩
    have hz : first + (c + 1) = y + 1 := by omega
    rw [hz, ← hx, ← hy] at h4
    have wx : IntKind.i64.wrap ((first : Int) + root) = (x : Int) := by rw [hx]; rw [IntWalk.i64_in _ (by omega)]; omega
    have wy : IntKind.i64.wrap ((first : Int) + c) = (y : Int) := by rw [hy]; rw [IntWalk.i64_in _ (by omega)]; omega
    have wy1 := i64_add (n := y) (by omega)
    have wy2 : IntKind.i64.wrap ((first : Int) + ((c : Int) + 1)) = (y : Int) + 1 := by rw [IntWalk.i64_in _ (by omega)]; omega
    have lx := h1.ld (i := x) (by omega)
    have ly := h1.ld (i := y) (by omega)
    have qx : x < d'.size := by omega
    have qy : y < d'.size := by omega
    have q0 : (0 : Int) ≤ (y : Int) + 1 := by omega
    have qt : ((y : Int) + 1).toNat = y + 1 := by omega
    by_cases hc1 : c + 1 < hi
    · have hc1I : (c : Int) + 1 < hi := by omega
      have ly1 := h1.ld (i := y + 1) (by omega)
      have qy1 : (y : Int) + 1 < d'.size := by omega
      cases hl1 : ltN (nth d' y) (nth d' (y + 1)) with
      | true =>
        rw [hl1, if_pos ⟨hc1, rfl⟩] at h4
        cases hl2 : ltN (nth d' x) (nth d' (y + 1)) with
        | true =>
          rw [hl2, if_pos rfl] at h4
          obtain ⟨T1, T2, e1, e2, t1, t2, t3⟩ := h1.swap (i := x) (j := y + 1) (by omega) (by omega)
          simp [s0, s2, s3, s8, hwa, hwb, hchI]
          refine draws [.p, .p, .p, .p, .p, .p, .p, .p, .p, .p, .r 0 0, .p, .p, .p, .p, .p, .p, .r 0 0, .e [], .p] (n := 76) (by kernel_rfl) (by simp [hn]) ?_
          simp [s0, s2, s3, s8, u1, u2, wk, okv, hwc, hc1I, wy, wy1, ly, ly1, qy, q0, qt, qy1, less_sort, hl1, ex0]
          refine draws [.p, .p, .p, .p, .p, .r 0 0, .p, .p, .p, .p, .p, .r 0 0, .e [], .p] (n := 76) (by kernel_rfl) (by simp [hn]) ?_
          simp [s0, s2, s3, s8, u1, u2, wk, okv, hwc, wx, wy2, lx, ly1, qx, q0, qt, qy1, less_sort, hl2, ex0]
          refine draws [.p, .p, .p, .p, .p, .p, .p, .p, .p, .p, .p, .p, .p, .r 0 0, .p, .p, .p, .p, .p, .r 0 0, .p, .e [], .p, .e []] (n := 76) (by kernel_rfl) (by simp [hn]) ?_
          simp [s0, s2, s3, s8, u1, u2, wk, okv, hwc, wx, wy2, lx, ly1, qx, q0, qt, qy1, e1, e2]
          exact ⟨hi - (c + 1), by omega, siftH_mk (c + 1) _ t1 (h2.trans t2) (by rw [swp_size']; exact h3) h4 (by simp [s0]) (by simp [s2]) (by simp [s3]) (by simp) (by simp [hn]) (by omega) rfl⟩
        | false =>
          rw [hl2, if_neg (by simp)] at h4
          simp [s0, s2, s3, s8, hwa, hwb, hchI]
          refine draws [.p, .p, .p, .p, .p, .p, .p, .p, .p, .p, .r 0 0, .p, .p, .p, .p, .p, .p, .r 0 0, .e [], .p] (n := 76) (by kernel_rfl) (by simp [hn]) ?_
          simp [s0, s2, s3, s8, u1, u2, wk, okv, hwc, hc1I, wy, wy1, ly, ly1, qy, q0, qt, qy1, less_sort, hl1, ex0]
          refine draws [.p, .p, .p, .p, .p, .r 0 0, .p, .p, .p, .p, .p, .r 0 0, .e [], .p] (n := 76) (by kernel_rfl) (by simp [hn]) ?_
          simp [s0, s2, s3, s8, u1, u2, wk, okv, hwc, wx, wy2, lx, ly1, qx, q0, qt, qy1, less_sort, hl2, ex0]
          exact ⟨by rw [← h4]; exact h1, h2⟩
      | false =>
        rw [hl1, if_neg (by simp)] at h4
        cases hl2 : ltN (nth d' x) (nth d' y) with
        | true =>
          rw [hl2, if_pos rfl] at h4
          obtain ⟨T1, T2, e1, e2, t1, t2, t3⟩ := h1.swap (i := x) (j := y) (by omega) (by omega)
          simp [s0, s2, s3, s8, hwa, hwb, hchI]
          refine draws [.p, .p, .p, .p, .p, .p, .p, .p, .p, .p, .r 0 0, .p, .p, .p, .p, .p, .p, .r 0 0, .e [], .p] (n := 76) (by kernel_rfl) (by simp [hn]) ?_
          simp [s0, s2, s3, s8, u1, u2, wk, okv, hwc, hc1I, wy, wy1, ly, ly1, qy, q0, qt, qy1, less_sort, hl1, ex0]
          refine draws [.p, .p, .p, .p, .p, .r 0 0, .p, .p, .p, .p, .p, .r 0 0, .e [], .p] (n := 76) (by kernel_rfl) (by simp [hn]) ?_
          simp [s0, s2, s3, s8, u1, u2, wk, okv, wx, wy, lx, ly, qx, qy, less_sort, hl2, ex0]
          refine draws [.p, .p, .p, .p, .p, .p, .p, .p, .p, .p, .p, .p, .p, .r 0 0, .p, .p, .p, .p, .p, .r 0 0, .p, .e [], .p, .e []] (n := 76) (by kernel_rfl) (by simp [hn]) ?_
          simp [s0, s2, s3, s8, u1, u2, wk, okv, wx, wy, lx, ly, qx, qy, e1, e2]
          exact ⟨hi - c, by omega, siftH_mk c _ t1 (h2.trans t2) (by rw [swp_size']; exact h3) h4 (by simp [s0]) (by simp [s2]) (by simp [s3]) (by simp) (by simp [hn]) (by omega) rfl⟩
        | false =>
          rw [hl2, if_neg (by simp)] at h4
          simp [s0, s2, s3, s8, hwa, hwb, hchI]
          refine draws [.p, .p, .p, .p, .p, .p, .p, .p, .p, .p, .r 0 0, .p, .p, .p, .p, .p, .p, .r 0 0, .e [], .p] (n := 76) (by kernel_rfl) (by simp [hn]) ?_
          simp [s0, s2, s3, s8, u1, u2, wk, okv, hwc, hc1I, wy, wy1, ly, ly1, qy, q0, qt, qy1, less_sort, hl1, ex0]
          refine draws [.p, .p, .p, .p, .p, .r 0 0, .p, .p, .p, .p, .p, .r 0 0, .e [], .p] (n := 76) (by kernel_rfl) (by simp [hn]) ?_
          simp [s0, s2, s3, s8, u1, u2, wk, okv, wx, wy, lx, ly, qx, qy, less_sort, hl2, ex0]
          exact ⟨by rw [← h4]; exact h1, h2⟩
    · have hc1I : ¬ (c : Int) + 1 < hi := by omega
      rw [if_neg (fun hh => hc1 hh.1)] at h4
      cases hl2 : ltN (nth d' x) (nth d' y) with
      | true =>
        rw [hl2, if_pos rfl] at h4
        obtain ⟨T1, T2, e1, e2, t1, t2, t3⟩ := h1.swap (i := x) (j := y) (by omega) (by omega)
        simp [s0, s2, s3, s8, hwa, hwb, hchI]
        refine draws [.p, .p, .p, .p, .p, .p, .p, .p, .p, .p, .r 0 0, .p, .p, .p, .p, .p, .p, .r 0 0, .e [], .p] (n := 76) (by kernel_rfl) (by simp [hn]) ?_
        simp [s0, s2, s3, s8, hwc, hc1I, okW_undef]
        refine draws [.p, .p, .p, .p, .p, .r 0 0, .p, .p, .p, .p, .p, .r 0 0, .e [], .p] (n := 76) (by kernel_rfl) (by simp [hn]) ?_
        simp [s0, s2, s3, s8, u1, u2, wk, okv, wx, wy, lx, ly, qx, qy, less_sort, hl2, ex0]
        refine draws [.p, .p, .p, .p, .p, .p, .p, .p, .p, .p, .p, .p, .p, .r 0 0, .p, .p, .p, .p, .p, .r 0 0, .p, .e [], .p, .e []] (n := 76) (by kernel_rfl) (by simp [hn]) ?_
        simp [s0, s2, s3, s8, u1, u2, wk, okv, wx, wy, lx, ly, qx, qy, e1, e2]
        exact ⟨hi - c, by omega, siftH_mk c _ t1 (h2.trans t2) (by rw [swp_size']; exact h3) h4 (by simp [s0]) (by simp [s2]) (by simp [s3]) (by simp) (by simp [hn]) (by omega) rfl⟩
      | false =>
        rw [hl2, if_neg (by simp)] at h4
        simp [s0, s2, s3, s8, hwa, hwb, hchI]
        refine draws [.p, .p, .p, .p, .p, .p, .p, .p, .p, .p, .r 0 0, .p, .p, .p, .p, .p, .p, .r 0 0, .e [], .p] (n := 76) (by kernel_rfl) (by simp [hn]) ?_
        simp [s0, s2, s3, s8, hwc, hc1I, okW_undef]
        refine draws [.p, .p, .p, .p, .p, .r 0 0, .p, .p, .p, .p, .p, .r 0 0, .e [], .p] (n := 76) (by kernel_rfl) (by simp [hn]) ?_
        simp [s0, s2, s3, s8, u1, u2, wk, okv, wx, wy, lx, ly, qx, qy, less_sort, hl2, ex0]
        exact ⟨by rw [← h4]; exact h1, h2⟩
end
end Go.Proofs.YtgeghppdhjlbiaaGreatDoor.mod

namespace Go.Proofs.YtgeghppdhjlbiaaGreatDoor.mod
open Go Go.Am
set_option linter.unusedVariables false
set_option linter.unusedSimpArgs false

section
variable {S : AS} {v : AV} {d : Array Nat}
theorem siftDown_size (hi first : Nat) : ∀ (n root : Nat) (d : Array Nat), hi - root ≤ n → (Sort.siftDown ltN hi first root d).size = d.size := by
  intro n
  induction n with
  | zero =>
    intro root d h
    rw [sift_eq, if_pos (by omega)]
  | succ n ih =>
    intro root d h
    rw [sift_eq]
    split
    · rfl
    split
    · split
      · rw [ih _ _ (by omega), swp_size']
      · rfl
    · split
      · rw [ih _ _ (by omega), swp_size']
      · rfl
theorem nt214 : Tryz.f214.ntmps = 56 := by kernel_rfl
def bldH (S : AS) (v : AV) (d : Array Nat) (a n : Nat) (R : Array Nat) (k : Nat) (F' : Fr) (S' : AS) : Prop :=
  ∃ d' : Array Nat, NumAt S' v d' ∧ KeepV v S S' ∧ d'.size = d.size ∧ Sort.heapBuild ltN n a k d' = R ∧ sl F' 0 = v ∧ sl F' 6 = .int .i64 a ∧ sl F' 7 = .int .i64 0 ∧ sl F' 8 = .int .i64 n ∧ sl F' 9 = .int .i64 ((k : Int) - 1) ∧ F'.n = 56 ∧ k ≤ n
theorem bldH_mk {S : AS} {v : AV} {d : Array Nat} {a n : Nat} {R : Array Nat} {k : Nat} {F' : Fr} {S' : AS} (d' : Array Nat) (h1 : NumAt S' v d') (h2 : KeepV v S S') (h3 : d'.size = d.size) (h4 : Sort.heapBuild ltN n a k d' = R) (h5 : sl F' 0 = v) (h6 : sl F' 6 = .int .i64 a) (h7 : sl F' 7 = .int .i64 0) (h8 : sl F' 8 = .int .i64 n) (h9 : sl F' 9 = .int .i64 ((k : Int) - 1)) (h10 : F'.n = 56) (h11 : k ≤ n) : bldH S v d a n R k F' S' :=
  ⟨d', h1, h2, h3, h4, h5, h6, h7, h8, h9, h10, h11⟩
def popH (S : AS) (v : AV) (d : Array Nat) (a n : Nat) (R : Array Nat) (k : Nat) (F' : Fr) (S' : AS) : Prop :=
  ∃ d' : Array Nat, NumAt S' v d' ∧ KeepV v S S' ∧ d'.size = d.size ∧ Sort.heapPop ltN a k d' = R ∧ sl F' 0 = v ∧ sl F' 6 = .int .i64 a ∧ sl F' 7 = .int .i64 0 ∧ sl F' 10 = .int .i64 ((k : Int) - 1) ∧ F'.n = 56 ∧ k ≤ n
theorem popH_mk {S : AS} {v : AV} {d : Array Nat} {a n : Nat} {R : Array Nat} {k : Nat} {F' : Fr} {S' : AS} (d' : Array Nat) (h1 : NumAt S' v d') (h2 : KeepV v S S') (h3 : d'.size = d.size) (h4 : Sort.heapPop ltN a k d' = R) (h5 : sl F' 0 = v) (h6 : sl F' 6 = .int .i64 a) (h7 : sl F' 7 = .int .i64 0) (h9 : sl F' 10 = .int .i64 ((k : Int) - 1)) (h10 : F'.n = 56) (h11 : k ≤ n) : popH S v d a n R k F' S' :=
  ⟨d', h1, h2, h3, h4, h5, h6, h7, h9, h10, h11⟩
set_option maxRecDepth 20000 in
theorem heap_sort (h : NumAt S v d) {a b : Nat} (hab : a < b) (hb : b ≤ d.size) (hsz : d.size ≤ 1048576) : CallW C0 214 [v, .int .i64 a, .int .i64 b] S fun r T => r = .tuple [] ∧ NumAt T v (Sort.heapSort ltN d a b) ∧ KeepV v S T := by
  refine enterW (pu0 _) (pr0 _ rfl) fn214 rfl ok214 (by simp) fun F hn hs => ?_
  rw [nt214] at hn
  have s0 := hs 0
  have s1 := hs 1
  have s2 := hs 2
  clear hs
  simp only [List.getElem?_cons_zero, List.getElem?_cons_succ, Option.getD_some] at s0 s1 s2
  obtain ⟨n, hn1⟩ : ∃ n, n = b - a := ⟨_, rfl⟩
  have hw1 : IntKind.i64.wrap ((b : Int) - a) = (n : Int) := by rw [IntWalk.i64_in _ (by omega)]; omega
  obtain ⟨q, hq⟩ : ∃ q, q = (n - 1) / 2 := ⟨_, rfl⟩
  have hw2 : IntKind.i64.wrap ((n : Int) - 1) = ((n - 1 : Nat) : Int) := by rw [i64_sub1 (by omega)]; omega
  have hw3 : Int.tdiv ((n - 1 : Nat) : Int) 2 = (q : Int) := by rw [hq]; rfl
  have hw4 : IntKind.i64.wrap (q : Int) = (q : Int) := IntWalk.i64_in _ (by omega)
  have hR : Sort.heapPop ltN a n (Sort.heapBuild ltN n a (q + 1) d) = Sort.heapSort ltN d a b := by
    unfold Sort.heapSort
    rw [hq, hn1]
  simp [s0, s1, s2, hw1, hw2, hw3, hw4]
  refine loopP_of (bldH S v d a n (Sort.heapBuild ltN n a (q + 1) d)) (q + 1) (bldH_mk d h Keep.refl rfl rfl (by simp [s0]) (by simp) (by simp) (by simp) (by simp) (by simp [hn]) (by omega)) ?_
  clear s0 s1 s2 hn
  rintro k F' S' hn' ⟨d', h1, h2, h3, h4, s0, s6, s7, s8, s9, hn, hk⟩
  clear hn'
  by_cases h0 : (0 : Int) ≤ (k : Int) - 1
  · obtain ⟨i, rfl⟩ : ∃ i, k = i + 1 := ⟨k - 1, by omega⟩
    have hii : ((i + 1 : Nat) : Int) - 1 = i := by omega
    rw [hii] at s9 h0
    obtain ⟨r, T, ⟨rfl, t1, t2⟩, e⟩ := (sift_sort h1 (lo := i) (hi := n) (first := a) (by omega) (by omega) (by omega)).ex
    have hwi := i64_sub1 (n := i) (by omega)
    simp [s0, s6, s7, s8, s9, h0, e, ex0, hwi]
    exact ⟨i, by omega, bldH_mk _ t1 (h2.trans t2) (by rw [siftDown_size _ _ _ _ _ (Nat.le_refl _)]; exact h3) h4 (by simp [s0]) (by simp [s6]) (by simp [s7]) (by simp [s8]) (by simp) (by simp [hn]) (by omega)⟩
  · obtain rfl : k = 0 := by omega
    have h4' : d' = Sort.heapBuild ltN n a (q + 1) d := h4
    simp [s0, s6, s7, s8, s9, h0, hw2]
    refine loopP_of (popH S v d a n (Sort.heapSort ltN d a b)) n (popH_mk d' h1 h2 h3 (by rw [h4']; exact hR) (by simp [s0]) (by simp [s6]) (by simp [s7]) (by simp; omega) (by simp [hn]) (Nat.le_refl _)) ?_
    clear s0 s6 s7 s8 s9 hn h4 h4' h1 h2 h3 h0 hk d'
    rintro k F' S' hn' ⟨d', h1, h2, h3, h4, s0, s6, s7, s10, hn, hk⟩
    clear hn'
    by_cases h0 : (0 : Int) ≤ (k : Int) - 1
    · obtain ⟨i, rfl⟩ : ∃ i, k = i + 1 := ⟨k - 1, by omega⟩
      have hii : ((i + 1 : Nat) : Int) - 1 = i := by omega
      rw [hii] at s10 h0
      have u1 := h1.sl
      have u2 := h1.len
      have wk := h1.ok
      have okv := h1.gw.1.ok
      obtain ⟨y, hy⟩ : ∃ y, y = a + i := ⟨_, rfl⟩
      have wy : IntKind.i64.wrap ((a : Int) + i) = (y : Int) := by rw [hy]; rw [IntWalk.i64_in _ (by omega)]; omega
      have la := h1.ld (i := a) (by omega)
      have ly := h1.ld (i := y) (by omega)
      have qa : a < d'.size := by omega
      have qy : y < d'.size := by omega
      obtain ⟨T1, T2, e1, e2, t1, t2, t3⟩ := h1.swap (i := a) (j := y) (by omega) (by omega)
      obtain ⟨r, T, ⟨rfl, t4, t5⟩, e⟩ := (sift_sort t1 (lo := 0) (hi := i) (first := a) (by omega) (by rw [swp_size']; omega) (by rw [swp_size']; omega)).ex
      have hwi := i64_sub1 (n := i) (by omega)
      replace h4 : Sort.heapPop ltN a i (Sort.siftDown ltN i a 0 (Sort.swp d' a y)) = Sort.heapSort ltN d a b := by rw [hy]; exact h4
      simp at e
      simp [s0, s6, s7, s10, h0]
      refine draws [.p, .p, .p, .p, .p, .p, .p, .p, .p, .p, .p, .r 0 0, .p, .p, .p, .r 0 0, .p, .e [], .p, .e []] (n := 56) (by kernel_rfl) (by simp [hn]) ?_
      simp [s0, s6, s7, s10, u1, u2, wk, okv, wy, la, ly, qa, qy, e1, e2, e, ex0, hwi]
      exact ⟨i, by omega, popH_mk _ t4 ((h2.trans t2).trans t5) (by rw [siftDown_size _ _ _ _ _ (Nat.le_refl _), swp_size']; exact h3) h4 (by simp [s0]) (by simp [s6]) (by simp [s7]) (by simp) (by simp [hn]) (by omega)⟩
    · obtain rfl : k = 0 := by omega
      have h4' : d' = Sort.heapSort ltN d a b := h4
      simp [s0, s6, s7, s10, h0]
      exact ⟨by rw [← h4']; exact h1, h2⟩
end
end Go.Proofs.YtgeghppdhjlbiaaGreatDoor.mod

namespace Go.Proofs.YtgeghppdhjlbiaaGreatDoor.mod
open Go Go.Am
set_option linter.unusedVariables false
set_option linter.unusedSimpArgs false

section
variable {S : AS} {v : AV} {d : Array Nat}
theorem scanUp_yes {p : Nat → Bool} {d : Array Nat} {i j : Nat} (h1 : i ≤ j) (h2 : p (nth d i) = true) : Sort.scanUp p d j i = Sort.scanUp p d j (i + 1) := by
  conv => lhs; rw [Sort.scanUp]
  rw [if_pos]
  rw [Bool.and_eq_true, decide_eq_true_eq]
  exact ⟨h1, h2⟩
theorem scanUp_no {p : Nat → Bool} {d : Array Nat} {i j : Nat} (h : i ≤ j → p (nth d i) = false) : Sort.scanUp p d j i = i := by
  rw [Sort.scanUp, if_neg]
  rw [Bool.and_eq_true, decide_eq_true_eq]
  rintro ⟨h1, h2⟩
  have h3 : p (nth d i) = true := h2
  rw [h h1] at h3
  cases h3
theorem scanDown_yes {p : Nat → Bool} {d : Array Nat} {i j : Nat} (h1 : i ≤ j + 1) (h2 : p (nth d (j + 1)) = true) : Sort.scanDown p d i (j + 1) = Sort.scanDown p d i j := by
  conv => lhs; rw [Sort.scanDown]
  rw [if_pos]
  rw [Bool.and_eq_true, decide_eq_true_eq]
  exact ⟨h1, h2⟩
theorem scanDown_no {p : Nat → Bool} {d : Array Nat} {i j : Nat} (h : i ≤ j → p (nth d j) = false) : Sort.scanDown p d i j = j := by
  cases j with
  | zero => rfl
  | succ j =>
    rw [Sort.scanDown, if_neg]
    rw [Bool.and_eq_true, decide_eq_true_eq]
    rintro ⟨h1, h2⟩
    have h3 : p (nth d (j + 1)) = true := h2
    rw [h h1] at h3
    cases h3
def upH (S1 : AS) (v : AV) (a : Nat) (p : Nat → Bool) (d : Array Nat) (j I N si sj k : Nat) (F' : Fr) (S' : AS) : Prop :=
  S' = S1 ∧ ∃ i : Nat, sl F' 0 = v ∧ sl F' 1 = .int .i64 a ∧ sl F' sj = .int .i64 j ∧ sl F' si = .int .i64 i ∧ Sort.scanUp p d j i = I ∧ a < i ∧ i ≤ j + 1 ∧ F'.n = N ∧ k = j + 1 - i
theorem upH_mk {S1 : AS} {v : AV} {a : Nat} {p : Nat → Bool} {d : Array Nat} {j I N si sj k : Nat} {F' : Fr} (i : Nat) (h1 : sl F' 0 = v) (h2 : sl F' 1 = .int .i64 a) (h3 : sl F' sj = .int .i64 j) (h4 : sl F' si = .int .i64 i) (h5 : Sort.scanUp p d j i = I) (h6 : a < i) (h7 : i ≤ j + 1) (h8 : F'.n = N) (h9 : k = j + 1 - i) : upH S1 v a p d j I N si sj k F' S1 :=
  ⟨rfl, i, h1, h2, h3, h4, h5, h6, h7, h8, h9⟩
def dnH (S1 : AS) (v : AV) (a : Nat) (p : Nat → Bool) (d : Array Nat) (i J N si sj k : Nat) (F' : Fr) (S' : AS) : Prop :=
  S' = S1 ∧ ∃ j : Nat, sl F' 0 = v ∧ sl F' 1 = .int .i64 a ∧ sl F' sj = .int .i64 j ∧ sl F' si = .int .i64 i ∧ Sort.scanDown p d i j = J ∧ i ≤ j + 1 ∧ j < d.size ∧ F'.n = N ∧ k = j
theorem dnH_mk {S1 : AS} {v : AV} {a : Nat} {p : Nat → Bool} {d : Array Nat} {i J N si sj k : Nat} {F' : Fr} (j : Nat) (h1 : sl F' 0 = v) (h2 : sl F' 1 = .int .i64 a) (h3 : sl F' sj = .int .i64 j) (h4 : sl F' si = .int .i64 i) (h5 : Sort.scanDown p d i j = J) (h7 : i ≤ j + 1) (h8 : j < d.size) (h9 : F'.n = N) (h10 : k = j) : dnH S1 v a p d i J N si sj k F' S1 :=
  ⟨rfl, j, h1, h2, h3, h4, h5, h7, h8, h9, h10⟩
/-- Behind a scan. -/
def scnM (S1 : AS) (v : AV) (a N si sj I J : Nat) (F' : Fr) (S' : AS) : Prop :=
  S' = S1 ∧ sl F' 0 = v ∧ sl F' 1 = .int .i64 a ∧ sl F' si = .int .i64 I ∧ sl F' sj = .int .i64 J ∧ F'.n = N
theorem scnM_mk {S1 : AS} {v : AV} {a N si sj I J : Nat} {F' : Fr} (h1 : sl F' 0 = v) (h2 : sl F' 1 = .int .i64 a) (h3 : sl F' si = .int .i64 I) (h4 : sl F' sj = .int .i64 J) (h5 : F'.n = N) : scnM S1 v a N si sj I J F' S1 := ⟨rfl, h1, h2, h3, h4, h5⟩
theorem nt220 : Tryz.f220.ntmps = 168 := by kernel_rfl
theorem partLoop_eq' (a i j I J : Nat) (d : Array Nat) (hI : I = Sort.scanUp (fun x => ltN x (nth d a)) d j i) (hJ : J = Sort.scanDown (fun x => !ltN x (nth d a)) d I j) : Sort.partLoop ltN a i j d = if I > J then (J, d) else Sort.partLoop ltN a (I + 1) (J - 1) (Sort.swp d I J) := by
  subst hJ
  subst hI
  exact Sort.partLoop_eq ltN a i j d
theorem partition_eq' (a b pivot I J : Nat) (d d1 : Array Nat) (h1 : d1 = Sort.swp d a pivot) (hI : I = Sort.scanUp (fun x => ltN x (nth d1 a)) d1 (b - 1) (a + 1)) (hJ : J = Sort.scanDown (fun x => !ltN x (nth d1 a)) d1 I (b - 1)) :
    Sort.partition ltN d a b pivot = if I > J then (J, true, Sort.swp d1 J a) else ((Sort.partLoop ltN a (I + 1) (J - 1) (Sort.swp d1 I J)).1, false, Sort.swp (Sort.partLoop ltN a (I + 1) (J - 1) (Sort.swp d1 I J)).2 (Sort.partLoop ltN a (I + 1) (J - 1) (Sort.swp d1 I J)).1 a) := by
  subst hJ
  subst hI
  subst h1
  rfl
def prtH (S : AS) (v : AV) (d : Array Nat) (a b : Nat) (R : Nat × Array Nat) (k : Nat) (F' : Fr) (S' : AS) : Prop :=
  ∃ (i j : Nat) (d' : Array Nat), NumAt S' v d' ∧ KeepV v S S' ∧ d'.size = d.size ∧ Sort.partLoop ltN a i j d' = R ∧ sl F' 0 = v ∧ sl F' 1 = .int .i64 a ∧ sl F' 10 = .int .i64 i ∧ sl F' 11 = .int .i64 j ∧ F'.n = 168 ∧ a < i ∧ i ≤ j + 1 ∧ j < b ∧ k = j + 1 - i
theorem prtH_mk {S : AS} {v : AV} {d : Array Nat} {a b : Nat} {R : Nat × Array Nat} {k : Nat} {F' : Fr} {S' : AS} (i j : Nat) (d' : Array Nat) (h1 : NumAt S' v d') (h2 : KeepV v S S') (h3 : d'.size = d.size) (h4 : Sort.partLoop ltN a i j d' = R) (h5 : sl F' 0 = v) (h6 : sl F' 1 = .int .i64 a) (h7 : sl F' 10 = .int .i64 i) (h8 : sl F' 11 = .int .i64 j) (h9 : F'.n = 168) (h10 : a < i) (h11 : i ≤ j + 1) (h12 : j < b) (h13 : k = j + 1 - i) : prtH S v d a b R k F' S' :=
  ⟨i, j, d', h1, h2, h3, h4, h5, h6, h7, h8, h9, h10, h11, h12, h13⟩
set_option maxRecDepth 20000 in
theorem prt_sort (h : NumAt S v d) {a b pivot : Nat} (hap : a ≤ pivot) (hpb : pivot < b) (hb : b ≤ d.size) (hsz : d.size ≤ 1048576) : CallW C0 220 [v, .int .i64 a, .int .i64 b, .int .i64 pivot] S fun r T => r = .tuple [.int .i64 (Sort.partition ltN d a b pivot).1, .bool (Sort.partition ltN d a b pivot).2.1] ∧ NumAt T v (Sort.partition ltN d a b pivot).2.2 ∧ KeepV v S T := by
  have hpi := (Sort.partition_holds ltN swo_ltN d a b pivot hap hpb hb)
  refine enterW (pu0 _) (pr0 _ rfl) fn220 rfl ok220 (by simp) fun F hn hs => ?_
  rw [nt220] at hn
  have s0 := hs 0
  have s1 := hs 1
  have s2 := hs 2
  have s3 := hs 3
  clear hs
  simp only [List.getElem?_cons_zero, List.getElem?_cons_succ, Option.getD_some] at s0 s1 s2 s3
  obtain ⟨b', rfl⟩ : ∃ b', b = b' + 1 := ⟨b - 1, by omega⟩
  have hw : IntKind.i64.wrap ((b' : Int) + 1 - 1) = (b' : Int) := by rw [show (b' : Int) + 1 - 1 = b' by omega]; exact IntWalk.i64_in _ (by omega)
  have hw' : IntKind.i64.wrap (b' : Int) = (b' : Int) := IntWalk.i64_in _ (by omega)
  have hwa := i64_add (n := a) (by omega)
  simp at s2
  have u1 := h.sl
  have u2 := h.len
  have wk := h.ok
  have okv := h.gw.1.ok
  have la := h.ld (i := a) (by omega)
  have qa : a < d.size := by omega
  have lp := h.ld (i := pivot) (by omega)
  have qp : pivot < d.size := by omega
  obtain ⟨d1, hd1⟩ : ∃ d1, d1 = Sort.swp d a pivot := ⟨_, rfl⟩
  obtain ⟨T0, T1, e1, e2, g1, g2, g3⟩ := h.swap (i := a) (j := pivot) (by omega) (by omega)
  rw [← hd1] at g1
  have g4 : d1.size = d.size := by rw [hd1, swp_size']
  obtain ⟨I1, hI1⟩ : ∃ I1, I1 = Sort.scanUp (fun x => ltN x (nth d1 a)) d1 b' (a + 1) := ⟨_, rfl⟩
  obtain ⟨J1, hJ1⟩ : ∃ J1, J1 = Sort.scanDown (fun x => !ltN x (nth d1 a)) d1 I1 b' := ⟨_, rfl⟩
  have hp := partition_eq' a (b' + 1) pivot I1 J1 d d1 hd1 hI1 hJ1
  have bI := Sort.scanUp_spec (fun x => ltN x (nth d1 a)) d1 b' _ (a + 1) rfl
  rw [← hI1] at bI
  have bJ := Sort.scanDown_spec (fun x => !ltN x (nth d1 a)) d1 I1 b'
  rw [← hJ1] at bJ
  have bI2 := bI.2.1 (by omega)
  have bJ2 := bJ.2.1 bI2
  have bI1 := bI.1
  have bJ1 := bJ.1
  have hlt1 : ¬ I1 > J1 → I1 < J1 := fun hh => by
    have h1 : ltN (nth d1 I1) (nth d1 a) = false := bI.2.2.2 (by omega)
    have h2 : (!ltN (nth d1 J1) (nth d1 a)) = false := bJ.2.2.2 (by omega) (by omega)
    rcases Nat.lt_or_ge I1 J1 with h3 | h3
    · exact h3
    · have h4 : I1 = J1 := by omega
      rw [h4] at h1
      rw [h1] at h2
      cases h2
  clear bI bJ
  simp [-wpP_block, s0, s1, s2, s3]
  refine draws [.p, .p, .p, .p, .p, .p, .p, .r 0 0, .p, .p, .p, .r 0 0, .p, .e [], .p, .e []] (n := 168) (by kernel_rfl) (by simp [hn]) ?_
  simp [-wpP_block, s0, s1, s2, s3, u1, u2, wk, okv, la, lp, qa, qp, e1, e2, hw, hw', hwa]
  clear u1 u2 wk okv la qa lp qp e1 e2
  have u1 := g1.sl
  have u2 := g1.len
  have wk := g1.ok
  have okv := g1.gw.1.ok
  have la := g1.ld (i := a) (by omega)
  have qa : a < d1.size := by omega
  have si : True := trivial
  have sj : True := trivial
  refine cut_of (scnM T1 v a 168 10 11 I1 b') ?_ ?_
  · rw [wpP_block, wpP_loop]
    refine loopP_of (upH T1 v a (fun x => ltN x (nth d1 a)) d1 b' I1 168 10 11) (b' + 1 - (a + 1)) (upH_mk (a + 1) (by simp [s0]) (by simp [s1]) (by simp) (by simp) hI1.symm (by omega) (by omega) (by simp [hn]) rfl) ?_
    clear s0 s1 si sj hn
    rintro k2 F2 S2 hn2 ⟨rfl, i, s0, s1, sj, si, hI, hai, hij, hn, hk2⟩
    clear hn2
    have hwi := i64_add (n := i) (by omega)
    simp [s0, s1, si, sj]
    refine draws [.p, .p, .p, .p, .p, .p, .p, .r 0 0, .p, .p, .p, .r 0 0, .e [], .p] (n := 168) (by kernel_rfl) (by simp [hn]) ?_
    by_cases hc : i ≤ b'
    · have li := g1.ld (i := i) (by omega)
      have qi : i < d1.size := by omega
      cases hl : ltN (nth d1 i) (nth d1 a) with
      | true =>
        rw [scanUp_yes hc (by show ltN _ _ = true; rw [hl])] at hI
        simp [s0, s1, si, sj, hc, u1, u2, wk, okv, li, la, qi, qa, less_sort, hl, ex0]
        exact ⟨b' + 1 - (i + 1), by omega, upH_mk (i + 1) (by simp [s0]) (by simp [s1]) (by simp [sj]) (by simp [hwi]) hI (by omega) (by omega) (by simp [hn]) rfl⟩
      | false =>
        rw [scanUp_no (fun _ => by show ltN _ _ = false; rw [hl])] at hI
        simp [s0, s1, si, sj, hc, u1, u2, wk, okv, li, la, qi, qa, less_sort, hl, ex0]
        exact scnM_mk (by simp [s0]) (by simp [s1]) (by simp [si, hI]) (by simp [sj]) (by simp [hn])
    · rw [scanUp_no (fun hh => absurd hh hc)] at hI
      simp [s0, s1, si, sj, hc, okW_undef]
      exact scnM_mk (by simp [s0]) (by simp [s1]) (by simp [si, hI]) (by simp [sj]) (by simp [hn])
  clear s0 s1 s2 s3 hn si sj
  rintro F T ⟨rfl, s0, s1, si, sj, hn⟩
  simp [-wpP_block, kcode_app, s0, s1, si, sj]
  refine cut_of (scnM T v a 168 10 11 I1 J1) ?_ ?_
  · rw [wpP_block, wpP_loop]
    refine loopP_of (dnH T v a (fun x => !ltN x (nth d1 a)) d1 I1 J1 168 10 11) b' (dnH_mk b' (by simp [s0]) (by simp [s1]) (by simp [sj]) (by simp [si]) hJ1.symm (by omega) (by omega) (by simp [hn]) rfl) ?_
    clear s0 s1 si sj hn
    rintro k2 F2 S2 hn2 ⟨rfl, j, s0, s1, sj, si, hJ, hij, hjb, hn, hk2⟩
    clear hn2
    simp [s0, s1, si, sj]
    refine draws [.p, .p, .p, .p, .p, .p, .p, .r 0 0, .p, .p, .p, .r 0 0, .e [], .p, .p] (n := 168) (by kernel_rfl) (by simp [hn]) ?_
    by_cases hc : I1 ≤ j
    · obtain ⟨j2, rfl⟩ : ∃ j2, j = j2 + 1 := ⟨j - 1, by omega⟩
      have li := g1.ld (i := j2 + 1) (by omega)
      have qi : (j2 : Int) + 1 < d1.size := by omega
      have q0 : (0 : Int) ≤ (j2 : Int) + 1 := by omega
      have qt : ((j2 : Int) + 1).toNat = j2 + 1 := by omega
      have hcI : (I1 : Int) ≤ (j2 : Int) + 1 := by omega
      have hwj : IntKind.i64.wrap ((j2 : Int) + 1 - 1) = (j2 : Int) := by rw [show (j2 : Int) + 1 - 1 = j2 by omega]; exact IntWalk.i64_in _ (by omega)
      have hwj' : IntKind.i64.wrap (j2 : Int) = (j2 : Int) := IntWalk.i64_in _ (by omega)
      simp at sj
      cases hl : ltN (nth d1 (j2 + 1)) (nth d1 a) with
      | false =>
        rw [scanDown_yes hc (by show (!ltN _ _) = true; rw [hl]; rfl)] at hJ
        simp [s0, s1, si, sj, hcI, u1, u2, wk, okv, li, la, qi, q0, qt, qa, less_sort, hl, ex0]
        exact ⟨j2, by omega, dnH_mk j2 (by simp [s0]) (by simp [s1]) (by simp [hwj, hwj']) (by simp [si]) hJ (by omega) (by omega) (by simp [hn]) rfl⟩
      | true =>
        rw [scanDown_no (fun _ => by show (!ltN _ _) = false; rw [hl]; rfl)] at hJ
        simp [s0, s1, si, sj, hcI, u1, u2, wk, okv, li, la, qi, q0, qt, qa, less_sort, hl, ex0]
        exact scnM_mk (by simp [s0]) (by simp [s1]) (by simp [si]) (by simp [sj, ← hJ]) (by simp [hn])
    · have hcI : ¬ (I1 : Int) ≤ j := by omega
      rw [scanDown_no (fun hh => absurd hh hc)] at hJ
      simp [s0, s1, si, sj, hcI, okW_undef]
      exact scnM_mk (by simp [s0]) (by simp [s1]) (by simp [si]) (by simp [sj, ← hJ]) (by simp [hn])
  clear s0 s1 hn si sj
  rintro F T ⟨rfl, s0, s1, si, sj, hn⟩
  by_cases hIJ : I1 > J1
  · rw [if_pos hIJ] at hp
    rw [hp]
    have hIJI : (J1 : Int) < I1 := by omega
    obtain ⟨U0, U1, f1, f2, t1, t2, t3⟩ := g1.swap (i := J1) (j := a) (by omega) (by omega)
    have lj := g1.ld (i := J1) (by omega)
    have qj : J1 < d1.size := by omega
    simp [kcode_app, s0, s1, si, sj, hIJ]
    refine draws [.p, .p, .p, .p, .p, .p, .p, .r 0 0, .p, .p, .p, .r 0 0, .p, .e [], .p, .e []] (n := 168) (by kernel_rfl) (by simp [hn]) ?_
    simp [s0, s1, si, sj, u1, u2, wk, okv, la, lj, qa, qj, f1, f2]
    exact ⟨t1, g2.trans t2⟩
  · rw [if_neg hIJ] at hp
    have hlt2 := hlt1 hIJ
    have hIJI : ¬ (J1 : Int) < I1 := by omega
    obtain ⟨U0, U1, f1, f2, t1, t2, t3⟩ := g1.swap (i := I1) (j := J1) (by omega) (by omega)
    have lj := g1.ld (i := J1) (by omega)
    have qj : J1 < d1.size := by omega
    have li := g1.ld (i := I1) (by omega)
    have qi : I1 < d1.size := by omega
    have hwi := i64_add (n := I1) (by omega)
    have hwj : IntKind.i64.wrap ((J1 : Int) - 1) = ((J1 - 1 : Nat) : Int) := by rw [i64_sub1 (by omega)]; omega
    obtain ⟨R, hR⟩ : ∃ R, R = Sort.partLoop ltN a (I1 + 1) (J1 - 1) (Sort.swp d1 I1 J1) := ⟨_, rfl⟩
    rw [← hR] at hp
    have hRa : a ≤ R.1 ∧ R.1 < b' + 1 := by
      have h1 := hpi.1
      have h2 := hpi.2.1
      rw [hp] at h1 h2
      exact ⟨h1, h2⟩
    rw [hp]
    simp [kcode_app, s0, s1, si, sj, hIJ]
    refine draws [.p, .p, .p, .p, .p, .p, .p, .r 0 0, .p, .p, .p, .r 0 0, .p, .e [], .p, .e []] (n := 168) (by kernel_rfl) (by simp [hn]) ?_
    simp [s0, s1, si, sj, u1, u2, wk, okv, li, lj, qi, qj, f1, f2]
    refine loopP_of (prtH S v d a (b' + 1) R) (J1 - 1 + 1 - (I1 + 1)) (prtH_mk (I1 + 1) (J1 - 1) _ t1 (g2.trans t2) (by rw [swp_size']; exact g4) hR.symm (by simp [s0]) (by simp [s1]) (by simp [hwi]) (by simp [hwj]) (by simp [hn]) (by omega) (by omega) (by omega) rfl) ?_
    clear s0 s1 si sj hn u1 u2 wk okv la qa li lj qi qj f1 f2 hwi hwj t1 t2 t3 U0 U1 hR hI1 hJ1 bI1 bI2 bJ1 bJ2 hIJ hIJI hp g1 g2 g3 g4 hd1
    rintro k F S1 hn' ⟨i, j, d', h1, h2, h3, h4, s0, s1, si, sj, hn, hai, hij, hjb, hk⟩
    clear hn'
    have u1 := h1.sl
    have u2 := h1.len
    have wk := h1.ok
    have okv := h1.gw.1.ok
    have la := h1.ld (i := a) (by omega)
    have qa : a < d'.size := by omega
    obtain ⟨I1, hI1⟩ : ∃ I1, I1 = Sort.scanUp (fun x => ltN x (nth d' a)) d' j i := ⟨_, rfl⟩
    obtain ⟨J1, hJ1⟩ : ∃ J1, J1 = Sort.scanDown (fun x => !ltN x (nth d' a)) d' I1 j := ⟨_, rfl⟩
    rw [partLoop_eq' a i j I1 J1 d' hI1 hJ1] at h4
    have bI := Sort.scanUp_spec (fun x => ltN x (nth d' a)) d' j _ i rfl
    rw [← hI1] at bI
    have bJ := Sort.scanDown_spec (fun x => !ltN x (nth d' a)) d' I1 j
    rw [← hJ1] at bJ
    have bI2 := bI.2.1 (by omega)
    have bJ2 := bJ.2.1 bI2
    have bI1 := bI.1
    have bJ1 := bJ.1
    have hlt1 : ¬ I1 > J1 → I1 < J1 := fun hh => by
      have h1 : ltN (nth d' I1) (nth d' a) = false := bI.2.2.2 (by omega)
      have h2 : (!ltN (nth d' J1) (nth d' a)) = false := bJ.2.2.2 (by omega) (by omega)
      rcases Nat.lt_or_ge I1 J1 with h3 | h3
      · exact h3
      · have h4 : I1 = J1 := by omega
        rw [h4] at h1
        rw [h1] at h2
        cases h2
    clear bI bJ
    rw [wpP_block]
    simp only [wpP_seq]
    refine cut_of (scnM S1 v a 168 10 11 I1 j) ?_ ?_
    · rw [wpP_block, wpP_loop]
      refine loopP_of (upH S1 v a (fun x => ltN x (nth d' a)) d' j I1 168 10 11) (j + 1 - i) (upH_mk i (by simp [s0]) (by simp [s1]) (by simp [sj]) (by simp [si]) hI1.symm (by omega) (by omega) (by simp [hn]) rfl) ?_
      clear s0 s1 si sj hn
      rintro k2 F2 S2 hn2 ⟨e0, i, s0, s1, sj, si, hI, hai, hij, hn, hk2⟩
      subst e0
      clear hn2
      have hwi := i64_add (n := i) (by omega)
      simp [s0, s1, si, sj]
      refine draws [.p, .p, .p, .p, .p, .p, .p, .r 0 0, .p, .p, .p, .r 0 0, .e [], .p] (n := 168) (by kernel_rfl) (by simp [hn]) ?_
      by_cases hc : i ≤ j
      · have li := h1.ld (i := i) (by omega)
        have qi : i < d'.size := by omega
        cases hl : ltN (nth d' i) (nth d' a) with
        | true =>
          rw [scanUp_yes hc (by show ltN _ _ = true; rw [hl])] at hI
          simp [s0, s1, si, sj, hc, u1, u2, wk, okv, li, la, qi, qa, less_sort, hl, ex0]
          exact ⟨j + 1 - (i + 1), by omega, upH_mk (i + 1) (by simp [s0]) (by simp [s1]) (by simp [sj]) (by simp [hwi]) hI (by omega) (by omega) (by simp [hn]) rfl⟩
        | false =>
          rw [scanUp_no (fun _ => by show ltN _ _ = false; rw [hl])] at hI
          simp [s0, s1, si, sj, hc, u1, u2, wk, okv, li, la, qi, qa, less_sort, hl, ex0]
          exact scnM_mk (by simp [s0]) (by simp [s1]) (by simp [si, hI]) (by simp [sj]) (by simp [hn])
      · rw [scanUp_no (fun hh => absurd hh hc)] at hI
        simp [s0, s1, si, sj, hc, okW_undef]
        exact scnM_mk (by simp [s0]) (by simp [s1]) (by simp [si, hI]) (by simp [sj]) (by simp [hn])
    clear s0 s1 hn si sj
    rintro F T ⟨e0, s0, s1, si, sj, hn⟩
    subst e0
    simp [-wpP_block, kcode_app, s0, s1, si, sj]
    refine cut_of (scnM T v a 168 10 11 I1 J1) ?_ ?_
    · rw [wpP_block, wpP_loop]
      refine loopP_of (dnH T v a (fun x => !ltN x (nth d' a)) d' I1 J1 168 10 11) j (dnH_mk j (by simp [s0]) (by simp [s1]) (by simp [sj]) (by simp [si]) hJ1.symm (by omega) (by omega) (by simp [hn]) rfl) ?_
      clear s0 s1 si sj hn
      rintro k2 F2 S2 hn2 ⟨rfl, j, s0, s1, sj, si, hJ, hij, hjb, hn, hk2⟩
      clear hn2
      simp [s0, s1, si, sj]
      refine draws [.p, .p, .p, .p, .p, .p, .p, .r 0 0, .p, .p, .p, .r 0 0, .e [], .p, .p] (n := 168) (by kernel_rfl) (by simp [hn]) ?_
      by_cases hc : I1 ≤ j
      · obtain ⟨j2, rfl⟩ : ∃ j2, j = j2 + 1 := ⟨j - 1, by omega⟩
        have li := h1.ld (i := j2 + 1) (by omega)
        have qi : (j2 : Int) + 1 < d'.size := by omega
        have q0 : (0 : Int) ≤ (j2 : Int) + 1 := by omega
        have qt : ((j2 : Int) + 1).toNat = j2 + 1 := by omega
        have hcI : (I1 : Int) ≤ (j2 : Int) + 1 := by omega
        have hwj : IntKind.i64.wrap ((j2 : Int) + 1 - 1) = (j2 : Int) := by rw [show (j2 : Int) + 1 - 1 = j2 by omega]; exact IntWalk.i64_in _ (by omega)
        have hwj' : IntKind.i64.wrap (j2 : Int) = (j2 : Int) := IntWalk.i64_in _ (by omega)
        simp at sj
        cases hl : ltN (nth d' (j2 + 1)) (nth d' a) with
        | false =>
          rw [scanDown_yes hc (by show (!ltN _ _) = true; rw [hl]; rfl)] at hJ
          simp [s0, s1, si, sj, hcI, u1, u2, wk, okv, li, la, qi, q0, qt, qa, less_sort, hl, ex0]
          exact ⟨j2, by omega, dnH_mk j2 (by simp [s0]) (by simp [s1]) (by simp [hwj, hwj']) (by simp [si]) hJ (by omega) (by omega) (by simp [hn]) rfl⟩
        | true =>
          rw [scanDown_no (fun _ => by show (!ltN _ _) = false; rw [hl]; rfl)] at hJ
          simp [s0, s1, si, sj, hcI, u1, u2, wk, okv, li, la, qi, q0, qt, qa, less_sort, hl, ex0]
          exact scnM_mk (by simp [s0]) (by simp [s1]) (by simp [si]) (by simp [sj, ← hJ]) (by simp [hn])
      · have hcI : ¬ (I1 : Int) ≤ j := by omega
        rw [scanDown_no (fun hh => absurd hh hc)] at hJ
        simp [s0, s1, si, sj, hcI, okW_undef]
        exact scnM_mk (by simp [s0]) (by simp [s1]) (by simp [si]) (by simp [sj, ← hJ]) (by simp [hn])
    clear s0 s1 hn si sj
    rintro F T ⟨e0, s0, s1, si, sj, hn⟩
    subst e0
    by_cases hIJ : I1 > J1
    · rw [if_pos hIJ] at h4
      have hIJI : (J1 : Int) < I1 := by omega
      obtain ⟨U0, U1, f1, f2, t1, t2, t3⟩ := h1.swap (i := J1) (j := a) (by omega) (by omega)
      have lj := h1.ld (i := J1) (by omega)
      have qj : J1 < d'.size := by omega
      rw [← h4]
      simp [kcode_app, s0, s1, si, sj, hIJ]
      refine draws [.p, .p, .p, .p, .p, .p, .p, .r 0 0, .p, .p, .p, .r 0 0, .p, .e [], .p, .e []] (n := 168) (by kernel_rfl) (by simp [hn]) ?_
      simp [s0, s1, si, sj, u1, u2, wk, okv, la, lj, qa, qj, f1, f2]
      exact ⟨t1, h2.trans t2⟩
    · rw [if_neg hIJ] at h4
      have hIJI : ¬ (J1 : Int) < I1 := by omega
      have hlt2 := hlt1 hIJ
      obtain ⟨U0, U1, f1, f2, t1, t2, t3⟩ := h1.swap (i := I1) (j := J1) (by omega) (by omega)
      have lj := h1.ld (i := J1) (by omega)
      have qj : J1 < d'.size := by omega
      have li := h1.ld (i := I1) (by omega)
      have qi : I1 < d'.size := by omega
      have hwi := i64_add (n := I1) (by omega)
      have hwj : IntKind.i64.wrap ((J1 : Int) - 1) = ((J1 - 1 : Nat) : Int) := by rw [i64_sub1 (by omega)]; omega
      simp [kcode_app, s0, s1, si, sj, hIJ]
      refine draws [.p, .p, .p, .p, .p, .p, .p, .r 0 0, .p, .p, .p, .r 0 0, .p, .e [], .p, .e []] (n := 168) (by kernel_rfl) (by simp [hn]) ?_
      simp [s0, s1, si, sj, u1, u2, wk, okv, li, lj, qi, qj, f1, f2]
      exact ⟨J1 - 1 + 1 - (I1 + 1), by omega, prtH_mk (I1 + 1) (J1 - 1) _ t1 (h2.trans t2) (by rw [swp_size']; exact h3) h4 (by simp [s0]) (by simp [s1]) (by simp [hwi]) (by simp [hwj]) (by simp [hn]) (by omega) (by omega) (by omega) rfl⟩
end
end Go.Proofs.YtgeghppdhjlbiaaGreatDoor.mod
