/-
  slices.Sorted(maps.Keys(m)) as a function that need not be entered.
-/
import Derived.Test.YtfempihpphbgmaaGreatPartB
import Derived.Test.YtfempihpphbgmaaGreatRows
import Derived.Test.YtfempihpphbgmaaGreatAmIns
import Derived.Test.YtfempihpphbgmaaGreatAmWide
import Derived.Test.YtfempihpphbgmaaGreatAmArgs
import Derived.Test.YtfempihpphbgmaaGreatPartA
import Derived.Test.YtfempihpphbgmaaGreatAmCut
import Derived.Test.YtfempihpphbgmaaGreatAmText
noncomputable section
namespace Go.Proofs.YtfempihpphbgmaaGreat.idx
open Go Go.Am Go.Proofs.YtfempihpphbgmaaGreat.mod
set_option linter.unusedVariables false
set_option linter.unusedSimpArgs false
def risen (es : List AEnt) : List Nat := (es.map keyN).mergeSort fun a b => decide (a ≤ b)
theorem risen_perm (es : List AEnt) : (risen es).Perm (es.map keyN) := List.mergeSort_perm _ _
theorem risen_pair (es : List AEnt) : (risen es).Pairwise (· ≤ ·) := by
 have := List.pairwise_mergeSort (le := fun a b : Nat => decide (a ≤ b)) (fun a b c h1 h2 => by simp only [decide_eq_true_eq] at *; omega) (fun a b => by simp only [Bool.or_eq_true, decide_eq_true_eq]; omega) (es.map keyN)
 exact this.imp fun h => by simpa using h
theorem risen_eq {es : List AEnt} {l : List Nat} (h1 : l.Perm (es.map keyN)) (h2 : l.Pairwise (· ≤ ·)) : l = risen es :=
 List.Perm.eq_of_pairwise (le := (· ≤ ·)) (fun a b _ _ h1 h2 => Nat.le_antisymm h1 h2) h2 (risen_pair es) (h1.trans (risen_perm es).symm)
def out46 (S : AS) (l : List Nat) : AV × AS := match l with
 | [] => (.nils, S)
 | x :: l => (.slice (S.next + 5) l.length 0 (l.length + 1) (l.length + 1) 1 none, ⟨S.h.set (S.next + 5) (.row (numL (x :: l)) l.length l.length false 30), S.next + 6⟩)
def Q46 (vs : List AV) (S : AS) (es : List AEnt) : Prop :=
 ∃ bx mi clock, vs = [.func (.func 79) [] [.ptr bx 0 0 1]] ∧ S.h.get bx = some (.row [.map mi] 0 0 false 70) ∧ S.h.get mi = some (.map es clock) ∧ MapWf es clock ∧ (∀ e, e ∈ es → e.key = .int .u64 (keyN e : Int)) ∧ bx < S.next ∧ mi < S.next ∧ es.length ≤ 1048576
theorem Q46.uniq {vs : List AV} {S : AS} {es es' : List AEnt} (h : Q46 vs S es) (h' : Q46 vs S es') : es = es' := by
 obtain ⟨bx, mi, clock, rfl, h1, h2, _⟩ := h
 obtain ⟨bx', mi', clock', e, h1', h2', _⟩ := h'
 cases e
 rw [h1] at h1'
 cases h1'
 rw [h2] at h2'
 cases h2'
 rfl
open Classical in
def q46 (vs : List AV) (S : AS) : Option (AV × AS) := if h : ∃ es, Q46 vs S es then some (out46 S (risen h.choose)) else none
theorem q46_of {vs : List AV} {S : AS} {es : List AEnt} (h : Q46 vs S es) : q46 vs S = some (out46 S (risen es)) := by
 have hx : ∃ es, Q46 vs S es := ⟨es, h⟩
 unfold q46
 rw [dif_pos hx, hx.choose_spec.uniq h]
theorem flat_num : ∀ l : List Nat, flatL (flatF 2) (numL l) = true
 | [] => rfl
 | x :: l => by
  show (flatF 2 (.int .u64 (x : Int)) && flatL (flatF 2) (numL l)) = true
  rw [flat_num l]; rfl
theorem prim46 {Λ : LB} (hr : Ready Tryz.prog As) (hp : ∀ x, x ∈ As.prims → PrimOk Λ Tryz.prog x.1 x.2) (hg : ∀ x, x ∈ As.globs → GlobOk Λ.w Λ.B x.1 x.2) : PrimOk Λ Tryz.prog 46 q46 := by
 refine prim_kept (A := As) hr hp hg fun vs S v S' hq => ?_
 have hq2 := hq
 unfold q46 at hq2
 split at hq2
 case isFalse => cases hq2
 case isTrue h =>
  clear hq2
  obtain ⟨es, hQ⟩ := h
  rw [q46_of hQ] at hq
  obtain ⟨bx, mi, clock, rfl, h1, h2, h3, h4, h5, h6, h7⟩ := hQ
  have hc := sorted46 (S := cutS S [bx, mi]) (by rw [cutS_get, if_pos (by simp)]; exact h1) (by rw [cutS_get, if_pos (by simp)]; exact h2) h3 h4 h5 h6 h7
  have hnx : (cutS S [bx, mi]).next = S.next := rfl
  have hids : ∀ T, Sub (cutS S [bx, mi]) T → ∀ i, i ∈ [bx, mi] → T.h.get i = S.h.get i := by
   intro T hT i hi
   have hlt : i < S.next := by
    simp only [List.mem_cons, List.not_mem_nil, or_false] at hi
    rcases hi with rfl | rfl <;> assumption
   rw [hT.h i hlt, cutS_get, if_pos hi]
  cases hl : risen es with
  | nil =>
   rw [hl] at hq
   cases hq
   refine ⟨[bx, mi], (.nils, none), S.next, rfl, rfl, Nat.le_refl _, (fun i o h => (by cases h)), hc.mono ?_⟩
   rintro v T ⟨d, d1, d2, d3, d4⟩
   have hd := risen_eq d1 d2
   rcases d4 with ⟨_, rfl⟩ | ⟨hpos, _⟩
   ·exact ⟨rfl, hids T d3, d3.next⟩
   ·exfalso
    rw [hl] at hd
    have : d.size = 0 := by rw [← Array.length_toList, hd]; rfl
    omega
  | cons x l =>
   rw [hl] at hq
   cases hq
   refine ⟨[bx, mi], (.slice (S.next + 5) l.length 0 (l.length + 1) (l.length + 1) 1 none, some (S.next + 5, .row (numL (x :: l)) l.length l.length false 30)), S.next + 6, rfl, rfl, by omega, fun i o h => ?_, hc.mono ?_⟩
   ·cases h
    exact ⟨by omega, by omega, _, _, _, rfl, flat_num _⟩
   rintro v T ⟨d, d1, d2, d3, d4⟩
   have hd := risen_eq d1 d2
   rw [hl] at hd
   have hsz : d.size = l.length + 1 := by rw [← Array.length_toList, hd]; rfl
   rcases d4 with ⟨h0, _⟩ | ⟨_, rfl, ⟨low, w1, w2⟩, w3⟩
   ·omega
   ·rw [hnx, hsz] at w2 ⊢
    rw [hnx] at w3
    rw [hsz] at w1
    rw [hd] at w2
    simp only [Nat.add_sub_cancel] at w1 w2 ⊢
    refine ⟨?_, hids T d3, by omega⟩
    unfold keepV
    simp only [nble, w2]
    rw [decide_eq_true (show S.next ≤ S.next + 5 by omega)]
    simp only [cond_true, flat_num, nbeq, decide_true, w1, Bool.and_self]
end Go.Proofs.YtfempihpphbgmaaGreat.idx
namespace Go.Proofs.YtfempihpphbgmaaGreat.ins
open Go Go.Am
set_option linter.unusedVariables false
set_option linter.unusedSimpArgs false
abbrev A8 : Am.Ask := { exts := [(57, .apart)] }
abbrev C8 : Am.Cx := Am.mkCx Tryz.prog A8
theorem ex57 : C8.exts.get 57 = some .apart := by kernel_rfl
theorem pr8 (f : Nat) : C8.prims.get f = none := zaX f
theorem pu8 (f : Nat) : C8.pures.get f = none := zaX f
theorem fn31 : C8.fns.get 31 = some Tryz.f31 := by kernel_rfl
theorem ok31 : codeOk C8 Tryz.f31.ntmps (Tryz.f31.body.getD .skip) = true := by kernel_rfl
theorem nt31 : Tryz.f31.ntmps = 95 := by kernel_rfl
@[simp] theorem st78 : slT C8 78 = some (80, 5, 48) := by kernel_rfl
@[simp] theorem un78 : und C8 78 = some (.slice 80) := by kernel_rfl
@[simp] theorem un3 : und C8 3 = some (.int .i64) := by kernel_rfl
@[simp] theorem sz80 : szOf C8 80 = some 5 := by kernel_rfl
@[simp] theorem by80 : bytesOf C8 80 = some 48 := by kernel_rfl
def zeroE : List AV := [.int .i64 0, .int .i64 0, .str [], .bool false, .int .u64 0]
@[simp] theorem ze80 : zeroOf C8 80 = some (.agg zeroE) := by kernel_rfl
theorem zk80 : zeroOk C8 80 5 = true := by kernel_rfl
section
variable {S : AS} {F : Fr} {id g off len lim c : Nat}
theorem cap_gen {cx : Cx} {t e : TypeId} {z : Nat} {ts : List TypeId} (h : und cx t = some (.slice e)) : builtinV cx S .cap (t :: ts) [.slice id g off len lim z (some c)] = .val (.int .i64 (c : Int)) S := by
 show (match und cx t, (AV.slice id g off len lim z (some c)) with
  | some (.slice _), .nils => AR.val (.int .i64 0) S
  | some (.slice _), .slice _ _ _ _ _ _ (some c) => .val (.int .i64 (.ofNat c)) S
  | some (.array n _), _ => .val (.int .i64 (.ofNat n)) S
  | _, _ => .err 2) = _
 rw [h]; rfl
theorem cap_slice {ts : List TypeId} : builtinV C8 S .cap (78 :: ts) [.slice id g off len lim 5 (some c)] = .val (.int .i64 (c : Int)) S := cap_gen un78
theorem sliceV_gen {cx : Cx} {t e : TypeId} {z : Nat} {lo hi : Option Operand} {l k : Nat} (h : und cx t = some (.slice e)) (hz : szOf cx e = some z) (hl : bound F lo 0 = some l) (hh : bound F hi len = some k) (h1 : l ≤ k) (h2 : k ≤ c) :
  sliceV cx F t (.slice id g off len lim z (some c)) lo hi none = some (cutV id g off lim z l k c) := by
 have hb : bounds F len (roomOf len (some c)) lo hi none = some (l, k, c) := by
  unfold bounds
  rw [hl, hh]
  have e : bound F none (roomOf len (some c)) = some c := rfl
  rw [e]
  simp [nble, h1, h2, roomOf, isS]
 unfold sliceV
 simp only [h, hz, hb, nbeq, decide_true, cond_true]
 rfl
theorem zbM {lo hi : Option Operand} {l k : Nat} (hl : bound F lo 0 = some l) (hh : bound F hi len = some k) (h1 : l ≤ k) (h2 : k ≤ c) :
  sliceV C8 F 78 (.slice id g off len lim 5 (some c)) lo hi none = some (cutV id g off lim 5 l k c) := sliceV_gen un78 sz80 hl hh h1 h2
theorem sliceV_free {cx : Cx} {t e : TypeId} {z : Nat} {lo hi : Option Operand} {l k : Nat} (h : und cx t = some (.slice e)) (hz : szOf cx e = some z) (hl : bound F lo 0 = some l) (hh : bound F hi len = some k) (h1 : l ≤ k) (h2 : k ≤ len) :
  sliceV cx F t (.slice id g off len lim z none) lo hi none = some (.slice id g (off + l * z) (k - l) lim z none) := by
 have hb : bounds F len (roomOf len none) lo hi none = some (l, k, len) := by
  unfold bounds
  rw [hl, hh]
  have e : bound F none (roomOf len none) = some len := rfl
  rw [e]
  simp [nble, h1, h2, roomOf, isS]
 unfold sliceV
 simp only [h, hz, hb, nbeq, decide_true, cond_true, zaC]
 rfl
theorem sliceV_none {lo hi : Option Operand} {l k : Nat} (hl : bound F lo 0 = some l) (hh : bound F hi len = some k) (h1 : l ≤ k) (h2 : k ≤ len) :
  sliceV C8 F 78 (.slice id g off len lim 5 none) lo hi none = some (.slice id g (off + l * 5) (k - l) lim 5 none) := sliceV_free un78 sz80 hl hh h1 h2
theorem cutV_lt {l k : Nat} (h : l < c) : cutV id g off lim 5 l k c = .slice id g (off + l * 5) (k - l) lim 5 (some (c - l)) := by
 unfold cutV
 rw [nbeq, decide_eq_false (by omega)]
 simp only [cond_false, zaC, Nat.sub_eq]
 rfl
theorem okW_cutV {l k : Nat} : okW (cutV id g off lim 5 l k c) = true := by
 unfold cutV
 cases Nat.beq c l <;> simp only [cond_true, cond_false, zaC] <;> rfl
theorem okV_cutV {l k : Nat} : okV (cutV id g off lim 5 l k c) = true := by
 unfold cutV
 cases Nat.beq c l <;> simp only [cond_true, cond_false, zaC] <;> rfl
theorem append_gen {cx : Cx} {t u e bs z : Nat} {d : TypeDesc} {v x : AV} {ts : List TypeId} (h : und cx t = some (.slice e)) (hu : und cx u = some d) (hd : notInt d = true) (hs : szOf cx e = some (z + 1)) (hb : bytesOf cx e = some bs) (hz : zeroOk cx e (z + 1) = true) :
  builtinV cx S .append (t :: u :: ts) [v, x] = vals? (appendV S e (z + 1) bs v x) 4 := by
 show (match und cx t, und cx u with
  | some (.slice e), some (.int _) => vals? (appZ cx S e v x) 3
  | some (.slice e), some _ => match szOf cx e, bytesOf cx e with
   | some (Nat.succ z), some bs => cond (zeroOk cx e (Nat.succ z)) (vals? (appendV S e (Nat.succ z) bs v x) 4) (AR.err 13)
   | _, _ => AR.err 5
  | _, _ => AR.err 6) = _
 rw [h, hu]
 cases d <;> first | (cases hd; done) | simp only [hs, hb, hz, cond_true]
theorem append_at {v x : AV} {ts : List TypeId} : builtinV C8 S .append (78 :: 78 :: ts) [v, x] = vals? (appendV S 80 5 48 v x) 4 := append_gen un78 un78 rfl sz80 by80 zk80
theorem append_genz {cx : Cx} {t u e : Nat} {k : IntKind} {v x : AV} {ts : List TypeId} (h : und cx t = some (.slice e)) (hu : und cx u = some (.int k)) :
  builtinV cx S .append (t :: u :: ts) [v, x] = vals? (appZ cx S e v x) 3 := by
 show (match und cx t, und cx u with
  | some (.slice e), some (.int _) => vals? (appZ cx S e v x) 3
  | some (.slice e), some _ => match szOf cx e, bytesOf cx e with
   | some (Nat.succ z), some bs => cond (zeroOk cx e (Nat.succ z)) (vals? (appendV S e (Nat.succ z) bs v x) 4) (AR.err 13)
   | _, _ => AR.err 5
  | _, _ => AR.err 6) = _
 rw [h, hu]
theorem append_zero {v x : AV} {ts : List TypeId} : builtinV C8 S .append (78 :: 3 :: ts) [v, x] = vals? (appZ C8 S 80 v x) 3 := append_genz un78 un3
theorem copy_gen {cx : Cx} {t e z : Nat} {d x : AV} {ts : List TypeId} (h : und cx t = some (.slice e)) (hz : szOf cx e = some (z + 1)) : builtinV cx S .copy (t :: ts) [d, x] = vals? (copyV S (z + 1) d x) 7 := by
 show (match und cx t with
  | some (.slice e) => match szOf cx e with
   | some (Nat.succ z) => vals? (copyV S (Nat.succ z) d x) 7
   | _ => .err 8
  | _ => .err 9) = _
 rw [h]
 simp only [hz]
theorem copy_at {d x : AV} {ts : List TypeId} : builtinV C8 S .copy (78 :: ts) [d, x] = vals? (copyV S 5 d x) 7 := copy_gen un78 sz80
theorem appZ_gen {cx : Cx} {e n sz bs : Nat} {k : IntKind} {zero cells : List AV} (hs : szOf cx e = some (sz + 1)) (hb : bytesOf cx e = some bs) (hz : zeroOf cx e = some (.agg zero)) (hzl : zero.length = sz + 1)
  (ht : taken S (sz + 1) (.slice id g off len lim (sz + 1) (some c)) = some (len, cells)) (hlt : c < len + n) (hf : fits (len + n) bs = true) :
  appZ cx S e (.slice id g off len lim (sz + 1) (some c)) (.int k (n : Int)) = some (grown S e (len + n) (sz + 1) (cells ++ repL n zero)) := by
 unfold appZ
 simp only [hs, hb, hz]
 show (match cellsOf (.agg zero), taken S (sz + 1) (.slice id g off len lim (sz + 1) (some c)) with
  | some zero, some (_, old) => cond (Nat.beq (lenL zero) (Nat.succ sz) && Nat.blt c (Nat.add len n) && fits (Nat.add len n) bs) (some (grown S e (Nat.add len n) (Nat.succ sz) (appL old (repL n zero)))) none
  | _, _ => none) = _
 rw [cellsOf_agg, ht]
 have h1 : (Nat.beq (lenL zero) (Nat.succ sz) && Nat.blt c (Nat.add len n) && fits (Nat.add len n) bs) = true := by
  rw [nbeq, nblt, zaI, decide_eq_true hzl, decide_eq_true (show c < Nat.add len n from hlt)]
  exact hf
 simp only [h1, cond_true, zaK]
 rfl
theorem taken_at {cells : List AV} {low top : Nat} {frz : Bool} {ty : TypeId} {cap : Option Nat} (h : S.h.get id = some (.row cells low top frz ty)) (h1 : low ≤ g) (h2 : g ≤ top) (h3 : off + len * 5 ≤ lim) :
  taken S 5 (.slice id g off len lim 5 cap) = some (len, (cells.drop off).take (len * 5)) := by
 cases len with
 | zero => show cond (Nat.beq 5 5) (some (0, ([] : List AV))) none = _; rw [nbeq]; simp
 | succ m =>
  show cond (Nat.beq 5 5) (match rd S id g off (Nat.mul (m + 1) 5) lim with | some l => some (m + 1, l) | none => none) none = _
  rw [nbeq, decide_eq_true rfl, cond_true, rd_at, h, zbJ, if_pos ⟨h1, h2, h3⟩]
  rfl
theorem copyV_at {cells cs : List AV} {low top n m : Nat} {ty : TypeId} {cap : Option Nat} {x : AV} (ht : taken S 5 x = some (n, cs)) (h : S.h.get id = some (.row cells low top false ty)) (hg : g = top) (hm : min n len = m + 1) (hl : off + (m + 1) * 5 ≤ lim) (hcs : cs.length = n * 5)
  (hle : off ≤ cells.length) :
  copyV S 5 (.slice id g off len lim 5 cap) x = some (.int .i64 ((m + 1 : Nat) : Int), ⟨S.h.set id (.row (cells.take off ++ cs.take ((m + 1) * 5) ++ cells.drop (off + (m + 1) * 5)) top top false ty), S.next⟩) := by
 have hlen : (cs.take ((m + 1) * 5)).length = (m + 1) * 5 := by rw [List.length_take, hcs]; omega
 unfold copyV
 rw [ht]
 show cond (Nat.beq 5 5) (match Nat.min n len with
    | 0 => some (AV.int .i64 0, S)
    | m => match wr S id g off lim (takeN (Nat.mul m 5) cs) with
     | some S' => some (AV.int .i64 (.ofNat m), S')
     | none => none) none = _
 have e1 : Nat.min n len = m + 1 := hm
 rw [e1, nbeq, decide_eq_true rfl, cond_true]
 show (match wr S id g off lim (takeN (Nat.mul (m + 1) 5) cs) with
      | some S' => some (AV.int .i64 (.ofNat (m + 1)), S')
      | none => none) = _
 rw [zaO, wr_at, h]
 have e2 : Nat.mul (m + 1) 5 = (m + 1) * 5 := rfl
 rw [e2, wrO_row, hlen, if_pos ⟨hg, hl, rfl⟩, splice_lit hle, hlen]
 rfl
theorem apart_at {l1 l2 z1 z2 : Nat} {id' g' off' len' : Nat} {c1 c2 : Option Nat} {cells cells' : List AV} {low top low' top' : Nat} {ty ty' : TypeId} (hne : id ≠ id') (h1 : S.h.get id = some (.row cells low top false ty)) (h2 : S.h.get id' = some (.row cells' low' top' false ty'))
  (a1 : low ≤ g) (a2 : g ≤ top) (b1 : low' ≤ g') (b2 : g' ≤ top') : extS .apart S [.slice id g off len l1 z1 c1, .slice id' g' off' len' l2 z2 c2] = some (.bool false) := by
 unfold extS apartV
 simp only [nbeq, decide_eq_false hne, cond_false, h1, h2, nble, decide_eq_true a1, decide_eq_true a2, decide_eq_true b1, decide_eq_true b2, Bool.and_self, cond_true]
theorem append_room {cells new : List AV} {top bs n : Nat} {ty : TypeId} {x : AV} (ht : taken S 5 x = some (n + 1, new)) (h : S.h.get id = some (.row cells top top false ty)) (hr : len + (n + 1) ≤ c) (hf : fits (len + (n + 1)) bs = true) (hl : off + len * 5 + new.length ≤ lim) (ho : off + len * 5 ≤ cells.length) :
  appendV S 80 5 bs (.slice id top off len lim 5 (some c)) x = some (.slice id top off (len + (n + 1)) lim 5 (some c), ⟨S.h.set id (.row (cells.take (off + len * 5) ++ new ++ cells.drop (off + len * 5 + new.length)) top top false ty), S.next⟩) := by
 unfold appendV
 simp only [ht, nbeq, decide_true, cond_true, h, nble, Nat.le_refl, Bool.and_self, zaC, Nat.add_eq, hf, decide_eq_true hr]
 rw [wr_at, h, wrO_row]
 have e1 : off + Nat.mul len 5 = off + len * 5 := rfl
 rw [e1, if_pos ⟨rfl, hl, rfl⟩, splice_lit ho]
theorem append_more {cells new : List AV} {top bs n : Nat} {ty : TypeId} {x : AV} (ht : taken S 5 x = some (n + 1, new)) (h : S.h.get id = some (.row cells top top false ty)) (hr : ¬ len + (n + 1) ≤ c) (hf : fits (len + (n + 1)) bs = true) :
  appendV S 80 5 bs (.slice id top off len lim 5 (some c)) x = some (grown S 80 (len + (n + 1)) 5 ((cells.drop off).take (len * 5) ++ new)) := by
 unfold appendV
 simp only [ht, nbeq, decide_true, cond_true, h, nble, Nat.le_refl, Bool.and_self, zaC, Nat.add_eq, hf, decide_eq_false hr, cond_false, zaO, zaS, zaK]
 rfl
end
def insL (cells x : List AV) (i n : Nat) : List AV := cells.take (i * 5) ++ x ++ (cells.take (n * 5)).drop (i * 5)
structure InsAt (S T : AS) (id top c n i : Nat) (cells x : List AV) (v : AV) : Prop where
 lies : (v = .slice id top 0 (n + 1) (c * 5) 5 (some c) ∧ n + 1 ≤ c ∧ ∃ cT, T.h.get id = some (.row cT top top false 80) ∧ cT.length = c * 5 ∧ cT.take ((n + 1) * 5) = insL cells x i n) ∨
  (∃ jd, S.next ≤ jd ∧ v = .slice jd 0 0 (n + 1) ((n + 1) * 5) 5 none ∧ T.h.get jd = some (.row (insL cells x i n) 0 0 false 80) ∧ T.h.get id = S.h.get id)
 hold : ∀ j, j ≠ id → j < S.next → T.h.get j = S.h.get j
 next : S.next ≤ T.next
section
variable {S : AS}
theorem ins31 {id top c n i bid : Nat} {cells x : List AV} (hrow : S.h.get id = some (.row cells top top false 80)) (hcl : cells.length = c * 5) (hn : n ≤ c) (h0 : 0 < n) (hi : i ≤ n) (hf : fits (n + 1) 48 = true)
  (hx : S.h.get bid = some (.row x 0 0 false 80)) (hxl : x.length = 5) (hne : bid ≠ id) (hb : bid < S.next) (hid : id < S.next) :
  CallW C8 31 [.slice id top 0 n (c * 5) 5 (some c), .int .i64 (i : Int), .slice bid 0 0 1 5 5 (some 1)] S fun v T => InsAt S T id top c n i cells x v := by
 have hf' : n + 1 ≤ 4611686018427387904 := by
  unfold fits at hf
  simp only [nble, Bool.and_eq_true, decide_eq_true_eq] at hf
  exact hf.1
 have tx : ∀ cap, taken S 5 (.slice bid 0 0 1 5 5 cap) = some (0 + 1, x) := fun cap => by
  rw [taken_at hx (Nat.le_refl _) (Nat.le_refl _) (by omega)]
  rw [List.drop_zero, List.take_of_length_le (by omega)]
 refine enterW (pu8 _) (pr8 _) fn31 rfl ok31 (by simp) fun F hn' hs => ?_
 rw [nt31] at hn'
 have s0 := hs 0
 have s1 := hs 1
 have s2 := hs 2
 clear hs
 simp only [List.getElem?_cons_zero, List.getElem?_cons_succ, Option.getD_some] at s0 s1 s2
 have hw : IntKind.i64.wrap ((n : Int) + 1) = ((n + 1 : Nat) : Int) := zaP (by omega)
 by_cases hin : i = n
 ·subst hin
  by_cases hroom : i + (0 + 1) ≤ c
  ·have ha := append_room (off := 0) (len := i) (lim := c * 5) (bs := 48) (tx (some 1)) hrow hroom hf (by omega) (by omega)
   simp [s0, s1, s2, zbM, hi, hn, okW_cutV, okV_cutV, zaB, zaU, zaG, zbQ un78, append_at, ha]
   have hins : insL cells x i i = cells.take (i * 5) ++ x := by
    unfold insL
    rw [List.drop_eq_nil_of_le (by rw [List.length_take]; omega), List.append_nil]
   have hlt : (cells.take (i * 5)).length = i * 5 := by rw [List.length_take]; omega
   refine ⟨.inl ⟨rfl, by omega, _, gsS _ _ _, by simp only [List.length_append, List.length_drop, hlt]; omega, ?_⟩, fun j hj _ => gsN _ _ hj, Nat.le_refl _⟩
   rw [hins, ← List.append_assoc, List.take_append_of_le_length (by rw [List.length_append]; omega), List.take_of_length_le (by rw [List.length_append]; omega)]
  ·have ha := append_more (off := 0) (len := i) (lim := c * 5) (bs := 48) (tx (some 1)) hrow hroom hf
   obtain rfl : c = i := by omega
   simp [s0, s1, s2, zbM, okW_cutV, okV_cutV, zaB, zaU, zaG, zbQ un78, append_at, ha, grown]
   have hins : insL cells x c c = cells.take (c * 5) ++ x := by
    unfold insL
    rw [List.drop_eq_nil_of_le (by rw [List.length_take]; omega), List.append_nil]
   refine ⟨.inr ⟨S.next, Nat.le_refl _, rfl, by rw [hins]; exact gsS _ _ _, gsN _ _ (by omega)⟩, fun j _ hj => gsN _ _ (by omega), Nat.le_succ _⟩
 ·have hlt : i < n := by omega
  have hci : ((i : Int) = (n : Int)) = False := by simp; omega
  have hw2 : IntKind.i64.wrap ((i : Int) + 1) = ((i + 1 : Nat) : Int) := zaP (by omega)
  have hli : (cells.take (i * 5)).length = i * 5 := by rw [List.length_take]; omega
  by_cases hroom : n + 1 ≤ c
  ·have hcn : ((c : Int) < ((n + 1 : Nat) : Int)) = False := by simp; omega
   have hba : ∀ (l1 l2 z1 z2 o1 o2 n1 n2 : Nat) (c1 c2 : Option Nat), extS .apart S [.slice bid 0 o1 n1 l1 z1 c1, .slice id top o2 n2 l2 z2 c2] = some (.bool false) := fun l1 l2 z1 z2 o1 o2 n1 n2 c1 c2 =>
    apart_at hne hx hrow (Nat.le_refl _) (Nat.le_refl _) (Nat.le_refl _) (Nat.le_refl _)
   have hb2 : bound F none 0 = some 0 := zaU
   simp [s0, s1, s2, zbM, hi, hn, hroom, okW_cutV, okV_cutV, zaB, zaU, zaG, zbQ un78, append_at, cap_slice, hci, hw, hw2, hcn, cutV_lt, show i < c by omega, show i + 1 < c by omega, show i + 1 ≤ n + 1 by omega, show 0 < c by omega, show i ≤ n + 1 by omega, -Int.natCast_add, callV_ext ex57, hba, hn']
   obtain ⟨m, hm⟩ : ∃ m, n - i = m + 1 := ⟨n - i - 1, by omega⟩
   obtain ⟨S1, hS1⟩ : ∃ S1 : AS, S1 = ⟨S.h.set id (.row (cells.take ((i + 1) * 5) ++ ((cells.drop (i * 5)).take ((n + 1 - i) * 5)).take ((m + 1) * 5) ++ cells.drop ((i + 1) * 5 + (m + 1) * 5)) top top false 80), S.next⟩ := ⟨_, rfl⟩
   have hc1 : copyV ⟨S.h, S.next⟩ 5 (.slice id top ((i + 1) * 5) (n - i) (c * 5) 5 (some (c - (i + 1)))) (.slice id top (i * 5) (n + 1 - i) (c * 5) 5 (some (c - i))) = some (.int .i64 ((m + 1 : Nat) : Int), S1) := by
    rw [hS1]
    exact copyV_at (S := S) (taken_at hrow (Nat.le_refl _) (Nat.le_refl _) (by omega)) hrow rfl (by omega) (by omega) (by rw [List.length_take, List.length_drop]; omega) (by omega)
   have r1 : S1.h.get id = some (.row (cells.take ((i + 1) * 5) ++ ((cells.drop (i * 5)).take ((n + 1 - i) * 5)).take ((m + 1) * 5) ++ cells.drop ((i + 1) * 5 + (m + 1) * 5)) top top false 80) := by rw [hS1]; exact gsS _ _ _
   have o1 : ∀ j, j ≠ id → S1.h.get j = S.h.get j := fun j hj => by rw [hS1]; exact gsN _ _ hj
   have n1 : S1.next = S.next := by rw [hS1]
   clear hS1
   have x1 : S1.h.get bid = some (.row x 0 0 false 80) := by rw [o1 _ hne]; exact hx
   have lcs : (cells.take ((i + 1) * 5)).length = (i + 1) * 5 := by rw [List.length_take]; omega
   have lmid : (((cells.drop (i * 5)).take ((n + 1 - i) * 5)).take ((m + 1) * 5)).length = (m + 1) * 5 := by rw [List.length_take, List.length_take, List.length_drop]; omega
   have tx1 : taken S1 5 (.slice bid 0 0 1 5 5 (some 1)) = some (0 + 1, x) := by
    rw [taken_at x1 (Nat.le_refl _) (Nat.le_refl _) (by omega)]
    rw [List.drop_zero, List.take_of_length_le (by omega)]
   obtain ⟨cT, hcT⟩ : ∃ cT, cT = cells.take ((i + 1) * 5) ++ ((cells.drop (i * 5)).take ((n + 1 - i) * 5)).take ((m + 1) * 5) ++ cells.drop ((i + 1) * 5 + (m + 1) * 5) := ⟨_, rfl⟩
   rw [← hcT] at r1
   have lcT : cT.length = c * 5 := by rw [hcT, List.length_append, List.length_append, lcs, lmid, List.length_drop]; omega
   have hc2 : copyV S1 5 (.slice id top (i * 5) (n + 1 - i) (c * 5) 5 (some (c - i))) (.slice bid 0 0 1 5 5 (some 1)) = some (.int .i64 ((0 + 1 : Nat) : Int), ⟨S1.h.set id (.row (cT.take (i * 5) ++ x.take ((0 + 1) * 5) ++ cT.drop (i * 5 + (0 + 1) * 5)) top top false 80), S1.next⟩) :=
    copyV_at tx1 r1 rfl (by omega) (by omega) (by omega) (by omega)
   have key : cT.take (i * 5) ++ x.take ((0 + 1) * 5) ++ cT.drop (i * 5 + (0 + 1) * 5) = insL cells x i n ++ cells.drop ((n + 1) * 5) := by
    have e1 : cT.take (i * 5) = cells.take (i * 5) := by
     rw [hcT, List.append_assoc, List.take_append_of_le_length (by omega), List.take_take, Nat.min_eq_left (by omega)]
    have e2 : x.take ((0 + 1) * 5) = x := List.take_of_length_le (by omega)
    have e3 : cT.drop (i * 5 + (0 + 1) * 5) = (cells.take (n * 5)).drop (i * 5) ++ cells.drop ((n + 1) * 5) := by
     rw [hcT, List.append_assoc, show i * 5 + (0 + 1) * 5 = (i + 1) * 5 by omega]
     conv => lhs; arg 1; rw [← lcs]
     rw [List.drop_left, show (i + 1) * 5 + (m + 1) * 5 = (n + 1) * 5 by omega, List.take_take, Nat.min_eq_left (by omega), List.drop_take, show n * 5 - i * 5 = (m + 1) * 5 by omega]
    rw [e1, e2, e3]
    unfold insL
    simp only [List.append_assoc]
   have lins : (insL cells x i n).length = (n + 1) * 5 := by
    unfold insL
    simp only [List.length_append, List.length_drop, List.length_take]
    omega
   refine draws [.p, .p, .p, .p, .p, .p, .p, .p, .e []] (n := 95) (by kernel_rfl) (by simp [hn']) ?_
   simp [s0, s1, s2, zbM, hi, hn, hroom, okW_cutV, okV_cutV, zaB, zaU, zaG, zbQ un78, append_at, cap_slice, hci, hw, hw2, hcn, cutV_lt, show i < c by omega, show i + 1 < c by omega, show i + 1 ≤ n + 1 by omega, show 0 < c by omega, show i ≤ n + 1 by omega, -Int.natCast_add, copy_at, hn', hc1, hc2]
   refine ⟨.inl ⟨rfl, by omega, _, gsS _ _ _, ?_, ?_⟩, fun j hj _ => (gsN _ _ hj).trans (o1 j hj), by show S.next ≤ S1.next; rw [n1]; exact Nat.le_refl _⟩
   ·have := congrArg List.length key
    simp only [Nat.zero_add, Nat.one_mul, ← List.append_assoc] at this ⊢
    rw [this, List.length_append, lins, List.length_drop]; omega
   ·simp only [Nat.zero_add, Nat.one_mul, ← List.append_assoc] at key ⊢
    rw [key, List.take_append_of_le_length (by omega), List.take_of_length_le (by omega)]
  ·obtain rfl : c = n := by omega
   have hcn : ((c : Int) < ((c + 1 : Nat) : Int)) = True := by simp; omega
   have hsub : IntKind.i64.wrap (((c + 1 : Nat) : Int) - (i : Int)) = ((c + 1 - i : Nat) : Int) := by
    rw [show ((c + 1 : Nat) : Int) - (i : Int) = ((c + 1 - i : Nat) : Int) by omega]
    exact wrap_nat (by omega)
   obtain ⟨m, hm⟩ : ∃ m, c - i = m + 1 := ⟨c - i - 1, by omega⟩
   have rl : ∀ k, (repL k zeroE).length = k * 5 := by
    intro k
    induction k with
    | zero => rfl
    | succ k ih =>
     show (appL zeroE (repL k zeroE)).length = _
     rw [zaK, List.length_append, ih]
     show 5 + k * 5 = _
     omega
   obtain ⟨g0, hg0⟩ : ∃ g0, g0 = cells.take (i * 5) ++ repL (c + 1 - i) zeroE := ⟨_, rfl⟩
   have l0 : g0.length = (c + 1) * 5 := by rw [hg0, List.length_append, hli, rl]; omega
   obtain ⟨S1, hS1⟩ : ∃ S1 : AS, S1 = ⟨S.h.set S.next (.row g0 0 0 false 80), S.next + 1⟩ := ⟨_, rfl⟩
   have ha : appZ C8 S 80 (.slice id top 0 i (c * 5) 5 (some c)) (.int .i64 ((c + 1 - i : Nat) : Int)) = some (.slice S.next 0 0 (c + 1) ((c + 1) * 5) 5 none, S1) := by
    have := appZ_gen (k := .i64) (n := c + 1 - i) sz80 by80 ze80 rfl (taken_at (cap := some c) (len := i) (off := 0) (lim := c * 5) hrow (Nat.le_refl _) (Nat.le_refl _) (by omega)) (by omega) (by rw [show i + (c + 1 - i) = c + 1 by omega]; exact hf)
    rw [this]
    unfold grown
    rw [hS1, hg0, show i + (c + 1 - i) = c + 1 by omega]
    rfl
   have r1 : S1.h.get S.next = some (.row g0 0 0 false 80) := by rw [hS1]; exact gsS _ _ _
   have o1 : ∀ j, j ≠ S.next → S1.h.get j = S.h.get j := fun j hj => by rw [hS1]; exact gsN _ _ hj
   have n1 : S1.next = S.next + 1 := by rw [hS1]
   clear hS1
   have x1 : S1.h.get bid = some (.row x 0 0 false 80) := by rw [o1 _ (by omega)]; exact hx
   have tx1 : taken S1 5 (.slice bid 0 0 1 5 5 (some 1)) = some (0 + 1, x) := by
    rw [taken_at x1 (Nat.le_refl _) (Nat.le_refl _) (by omega)]
    rw [List.drop_zero, List.take_of_length_le (by omega)]
   obtain ⟨g1, hg1⟩ : ∃ g1, g1 = g0.take (i * 5) ++ x.take ((0 + 1) * 5) ++ g0.drop (i * 5 + (0 + 1) * 5) := ⟨_, rfl⟩
   obtain ⟨S2, hS2⟩ : ∃ S2 : AS, S2 = ⟨S1.h.set S.next (.row g1 0 0 false 80), S1.next⟩ := ⟨_, rfl⟩
   have hc1 : copyV S1 5 (.slice S.next 0 (i * 5) (c + 1 - i) ((c + 1) * 5) 5 none) (.slice bid 0 0 1 5 5 (some 1)) = some (.int .i64 ((0 + 1 : Nat) : Int), S2) := by
    rw [hS2, hg1]
    exact copyV_at tx1 r1 rfl (by omega) (by omega) (by omega) (by omega)
   have r2 : S2.h.get S.next = some (.row g1 0 0 false 80) := by rw [hS2]; exact gsS _ _ _
   have o2 : ∀ j, j ≠ S.next → S2.h.get j = S.h.get j := fun j hj => by rw [hS2]; exact (gsN _ _ hj).trans (o1 j hj)
   have n2 : S2.next = S.next + 1 := by rw [hS2]; exact n1
   clear hS2
   have hx5 : x.take ((0 + 1) * 5) = x := List.take_of_length_le (by omega)
   have lt0 : (g0.take (i * 5)).length = i * 5 := by rw [List.length_take]; omega
   have l1 : g1.length = (c + 1) * 5 := by rw [hg1, hx5, List.length_append, List.length_append, lt0, List.length_drop]; omega
   have hc2 : copyV ⟨S2.h, S2.next⟩ 5 (.slice S.next 0 ((i + 1) * 5) (c - i) ((c + 1) * 5) 5 none) (.slice id top (i * 5) (c - i) (c * 5) 5 (some (c - i))) = some (.int .i64 ((m + 1 : Nat) : Int), ⟨S2.h.set S.next (.row (g1.take ((i + 1) * 5) ++ ((cells.drop (i * 5)).take ((c - i) * 5)).take ((m + 1) * 5) ++ g1.drop ((i + 1) * 5 + (m + 1) * 5)) 0 0 false 80), S2.next⟩) :=
    copyV_at (S := S2) (taken_at (by rw [o2 _ (by omega)]; exact hrow) (Nat.le_refl _) (Nat.le_refl _) (by omega)) r2 rfl (by omega) (by omega) (by rw [List.length_take, List.length_drop]; omega) (by omega)
   have key : g1.take ((i + 1) * 5) ++ ((cells.drop (i * 5)).take ((c - i) * 5)).take ((m + 1) * 5) ++ g1.drop ((i + 1) * 5 + (m + 1) * 5) = insL cells x i c := by
    have e0 : g0.take (i * 5) = cells.take (i * 5) := by
     rw [hg0, List.take_append_of_le_length (by omega), List.take_take, Nat.min_eq_left (by omega)]
    have e1 : g1.take ((i + 1) * 5) = cells.take (i * 5) ++ x := by
     rw [hg1, hx5, e0, List.take_append_of_le_length (by rw [List.length_append]; omega), List.take_of_length_le (by rw [List.length_append]; omega)]
    have e2 : g1.drop ((i + 1) * 5 + (m + 1) * 5) = [] := List.drop_eq_nil_of_le (by omega)
    have e3 : ((cells.drop (i * 5)).take ((c - i) * 5)).take ((m + 1) * 5) = (cells.take (c * 5)).drop (i * 5) := by
     rw [List.take_take, Nat.min_eq_left (by omega), List.drop_take, show c * 5 - i * 5 = (m + 1) * 5 by omega]
    rw [e1, e2, e3, List.append_nil]
    rfl
   simp [s0, s1, s2, zbM, sliceV_none, hi, hn, okW_cutV, okV_cutV, zaB, zaU, zaG, zbQ un78, append_at, append_zero, cap_slice, hci, hw, hw2, hcn, cutV_lt, hlt, show 0 < c by omega, show i ≤ c + 1 by omega, -Int.natCast_add, copy_at, hn', hsub, ha, hc1]
   refine draws [.p, .p, .p, .p, .p, .p, .p, .p, .e []] (n := 95) (by kernel_rfl) (by simp [hn']) ?_
   simp [s0, s1, s2, zbM, sliceV_none, hi, hn, okW_cutV, okV_cutV, zaB, zaU, zaG, zbQ un78, append_at, append_zero, cap_slice, hci, hw, hw2, hcn, cutV_lt, hlt, show 0 < c by omega, show i ≤ c + 1 by omega, show i + 1 ≤ c + 1 by omega, -Int.natCast_add, copy_at, hn', hsub, ha, hc2]
   refine ⟨.inr ⟨S.next, Nat.le_refl _, rfl, ?_, (gsN _ _ (by omega)).trans (o2 _ (by omega))⟩, fun j hj hl => (gsN _ _ (by omega)).trans (o2 j (by omega)), by show S.next ≤ S2.next; omega⟩
   rw [← key]
   simp only [List.append_assoc]
   exact gsS _ _ _
end
variable {Λ : LB}
theorem ins31n {S : AS} {bid : Nat} {x : List AV} (hx : S.h.get bid = some (.row x 0 0 false 80)) (hxl : x.length = 5) :
  CallW C8 31 [.nils, .int .i64 0, .slice bid 0 0 1 5 5 (some 1)] S fun v T => v = .slice S.next 0 0 1 5 5 none ∧ T = ⟨S.h.set S.next (.row x 0 0 false 80), S.next + 1⟩ := by
 have tx : taken S 5 (.slice bid 0 0 1 5 5 (some 1)) = some (0 + 1, x) := by
  rw [taken_at hx (Nat.le_refl _) (Nat.le_refl _) (by omega)]
  rw [List.drop_zero, List.take_of_length_le (by omega)]
 have ha : appendV S 80 5 48 .nils (.slice bid 0 0 1 5 5 (some 1)) = some (.slice S.next 0 0 1 5 5 none, ⟨S.h.set S.next (.row x 0 0 false 80), S.next + 1⟩) := by
  unfold appendV
  simp only [tx]
  show cond (fits 1 48) (some (grown S 80 1 5 x)) none = _
  rw [show fits 1 48 = true from by decide]
  rfl
 refine enterW (pu8 _) (pr8 _) fn31 rfl ok31 (by simp) fun F hn' hs => ?_
 rw [nt31] at hn'
 have s0 := hs 0
 have s1 := hs 1
 have s2 := hs 2
 clear hs
 simp only [List.getElem?_cons_zero, List.getElem?_cons_succ, Option.getD_some] at s0 s1 s2
 have hsl : ∀ F : Fr, sl F 11 = .int .i64 0 → sliceV C8 F 78 .nils (some (.tmp 11)) none none = some .nils := fun F h =>
  zbA (v := .nils) (l := 0) (k := 0) st78 rfl (by rw [zaB]; simp [h, natOf_zero]) (by simp [zaU, sLen_nils]) (Nat.le_refl _) (Nat.le_refl _)
 have hlen : ∀ S : AS, builtinV C8 S .len [78] [.nils] = .val (.int .i64 0) S := fun S => len_sl st78 rfl
 simp [s0, s1, s2, hsl, hlen, zbQ un78, append_at, ha]
def insA (S : AS) (id g off n lim i bid : Nat) : Option (AV × AS) :=
 match S.h.get id, S.h.get bid with
 | some (.row cells _ top false ty), some (.row x lx tx false ty') =>
  cond (Nat.beq g top && Nat.beq off 0 && Nat.beq (Nat.mul n 5) lim && Nat.beq (lenL cells) lim && Nat.ble i n && Nat.blt 0 n && fits (Nat.succ n) 48 && Nat.beq ty 80 && Nat.beq ty' 80 && Nat.beq lx 0 && Nat.beq tx 0 && Nat.beq (lenL x) 5 && !Nat.beq bid id && flatL (flatF 2) cells && flatL (flatF 2) x)
   (some (.slice id (Nat.succ top) 0 (Nat.succ n) (Nat.mul (Nat.succ n) 5) 5 none, ⟨S.h.set id (.row (appL (takeN (Nat.mul i 5) cells) (appL x (dropN (Nat.mul i 5) cells))) (Nat.succ top) (Nat.succ top) false 80), S.next⟩)) none
 | _, _ => none
def insN (S : AS) (bid : Nat) : Option (AV × AS) :=
 match S.h.get bid with
 | some (.row x lx tx false ty') =>
  cond (Nat.beq ty' 80 && Nat.beq lx 0 && Nat.beq tx 0 && Nat.beq (lenL x) 5) (some (.slice S.next 0 0 1 5 5 none, ⟨S.h.set S.next (.row x 0 0 false 80), Nat.succ S.next⟩)) none
 | _ => none
def oneB (v : AV) : Option Nat := match v with
 | .slice bid g off n lim sz (some c) => cond (Nat.beq g 0 && Nat.beq off 0 && Nat.beq n 1 && Nat.beq lim 5 && Nat.beq sz 5 && Nat.beq c 1) (some bid) none
 | _ => none
theorem oneB_eq {v : AV} {bid : Nat} (h : oneB v = some bid) : v = .slice bid 0 0 1 5 5 (some 1) := by
 unfold oneB at h
 split at h
 ·rename_i b g off n lim sz c
  simp only [nbeq] at h
  cases hc : (decide (g = 0) && decide (off = 0) && decide (n = 1) && decide (lim = 5) && decide (sz = 5) && decide (c = 1)) with
  | false => rw [hc] at h; cases h
  | true =>
   rw [hc] at h
   cases h
   simp only [Bool.and_eq_true, decide_eq_true_eq] at hc
   obtain ⟨⟨⟨⟨⟨rfl, rfl⟩, rfl⟩, rfl⟩, rfl⟩, rfl⟩ := hc
   rfl
 ·cases h
def q31 (vs : List AV) (S : AS) : Option (AV × AS) :=
 match vs with
 | [.nils, .int .i64 (.ofNat i), v] => match oneB v with | some bid => cond (Nat.beq i 0) (insN S bid) none | none => none
 | [.slice id g off n lim 5 none, .int .i64 (.ofNat i), v] => match oneB v with | some bid => insA S id g off n lim i bid | none => none
 | _ => none
theorem insA_eq {S : AS} {id g off n lim i bid : Nat} {r : AV × AS} (h : insA S id g off n lim i bid = some r) : ∃ cells low x, S.h.get id = some (.row cells low g false 80) ∧ S.h.get bid = some (.row x 0 0 false 80) ∧
  off = 0 ∧ lim = n * 5 ∧ cells.length = n * 5 ∧ i ≤ n ∧ 0 < n ∧ fits (n + 1) 48 = true ∧ x.length = 5 ∧ bid ≠ id ∧ flatL (flatF 2) cells = true ∧ flatL (flatF 2) x = true ∧
  r = (.slice id (g + 1) 0 (n + 1) ((n + 1) * 5) 5 none, ⟨S.h.set id (.row (cells.take (i * 5) ++ (x ++ cells.drop (i * 5))) (g + 1) (g + 1) false 80), S.next⟩) := by
 unfold insA at h
 split at h
 ·rename_i cells low top ty x lx tx ty' h1 h2
  simp only [nbeq, nble, nblt, zaI, zaO, zaS, zaK] at h
  generalize hc : (decide (g = top) && decide (off = 0) && decide (Nat.mul n 5 = lim) && decide (cells.length = lim) && decide (i ≤ n) && decide (0 < n) && fits (Nat.succ n) 48 && decide (ty = 80) && decide (ty' = 80) && decide (lx = 0) && decide (tx = 0) && decide (x.length = 5) && !decide (bid = id) && flatL (flatF 2) cells && flatL (flatF 2) x) = cc at h
  cases cc with
  | false => cases h
  | true =>
   simp only [Bool.and_eq_true, decide_eq_true_eq, Bool.not_eq_true', decide_eq_false_iff_not] at hc
   obtain ⟨⟨⟨⟨⟨⟨⟨⟨⟨⟨⟨⟨⟨⟨rfl, rfl⟩, rfl⟩, c1⟩, c2⟩, c3⟩, c4⟩, rfl⟩, rfl⟩, rfl⟩, rfl⟩, c5⟩, c6⟩, c7⟩, c8⟩ := hc
   rw [cond_true] at h
   cases h
   exact ⟨cells, low, x, h1, h2, rfl, rfl, c1, c2, c3, c4, c5, c6, c7, c8, rfl⟩
 ·cases h
theorem insN_eq {S : AS} {bid : Nat} {r : AV × AS} (h : insN S bid = some r) : ∃ x, S.h.get bid = some (.row x 0 0 false 80) ∧ x.length = 5 ∧ r = (.slice S.next 0 0 1 5 5 none, ⟨S.h.set S.next (.row x 0 0 false 80), S.next + 1⟩) := by
 unfold insN at h
 split at h
 ·rename_i x lx tx ty' h2
  simp only [nbeq, zaI] at h
  generalize hc : (decide (ty' = 80) && decide (lx = 0) && decide (tx = 0) && decide (x.length = 5)) = cc at h
  cases cc with
  | false => cases h
  | true =>
   simp only [Bool.and_eq_true, decide_eq_true_eq] at hc
   obtain ⟨⟨⟨rfl, rfl⟩, rfl⟩, c5⟩ := hc
   rw [cond_true] at h
   cases h
   exact ⟨x, h2, c5, rfl⟩
 ·cases h
theorem flat_all {l : List AV} : flatL (flatF 2) l = true ↔ ∀ x, x ∈ l → flatF 2 x = true := by
 induction l with
 | nil => simp [flatL]
 | cons y l ih => simp [flatL, ih]
theorem prim31 (hr : Ready Tryz.prog A8) : PrimOk Λ Tryz.prog 31 q31 := by
 have hp : ∀ x, x ∈ A8.prims → PrimOk Λ Tryz.prog x.1 x.2 := fun x hx => by cases hx
 have hg : ∀ x, x ∈ A8.globs → GlobOk Λ.w Λ.B x.1 x.2 := fun x hx => by cases hx
 intro ρ vs S w args v S' hR hl hq
 unfold q31 at hq
 split at hq
 ·rename_i i v0
  cases hb : oneB v0 with
  | none => rw [hb] at hq; cases hq
  | some bid =>
   rw [hb] at hq
   obtain rfl := oneB_eq hb
   simp only [nbeq] at hq
   cases hi : decide (i = 0) with
   | false => rw [hi] at hq; cases hq
   | true =>
    rw [hi] at hq
    obtain rfl : i = 0 := by simpa using hi
    obtain ⟨x, h1, h2, h3⟩ := insN_eq hq
    cases h3
    obtain ⟨k1, k2⟩ := calls_of hr hp hg hR hl (ins31n h1 h2)
    refine ⟨k1, k2.mono ?_⟩
    rintro e w' ⟨x', v', T, ρ', rfl, r1, ⟨rfl, rfl⟩, r3, r4⟩
    exact ⟨x', ρ', rfl, r1, r3, r4⟩
 ·rename_i id g off n lim i v0
  cases hb : oneB v0 with
  | none => rw [hb] at hq; cases hq
  | some bid =>
   rw [hb] at hq
   obtain rfl := oneB_eq hb
   obtain ⟨cells, low, x, h1, h2, rfl, rfl, h3, h4, h5, h6, h7, h8, h9, h10, h11⟩ := insA_eq hq
   cases h11
   obtain ⟨y, ys, hy, hyr, y2, ys2, rfl, hyr2, y3, ys3, rfl, hyr3, rfl⟩ := (show ∃ y ys, args.toList = y :: ys ∧ VRel ρ (.slice id g 0 n (n * 5) 5 none) y ∧ ∃ y2 ys2, ys = y2 :: ys2 ∧ VRel ρ (.int .i64 (i : Int)) y2 ∧ ∃ y3 ys3, ys2 = y3 :: ys3 ∧ VRel ρ (.slice bid 0 0 1 5 5 (some 1)) y3 ∧ ys3 = [] by
    simpa only [LRel, Int.ofNat_eq_natCast] using hl)
   obtain ⟨c, pl, c1, c2, c3, c4, c5⟩ := hR.roomy h1 h3 h5 hyr
   have hid := hR.dom id _ h1
   have hbd := hR.dom bid _ h2
   have hx := c5.ext
   have hl2 : LRel (put ρ id (g + 1) pl) [.slice id (g + 1) 0 n (c * 5) 5 (some c), .int .i64 (i : Int), .slice bid 0 0 1 5 5 (some 1)] args.toList := by
    rw [hy]
    exact LRel.cons c3 (LRel.cons (hyr2.mono hx _ _) (LRel.cons (hyr3.mono hx _ _) LRel.nil))
   have hcl : (cells ++ List.replicate (c * 5 - n * 5) AV.top).length = c * 5 := by
    have : n * 5 ≤ c * 5 := Nat.mul_le_mul_right _ c1
    simp only [List.length_append, List.length_replicate]; omega
   have hc := ins31 (id := id) (top := g + 1) (c := c) (n := n) (i := i) (bid := bid) (x := x) (S := ⟨S.h.set id (.row (cells ++ List.replicate (c * 5 - n * 5) .top) (g + 1) (g + 1) false 80), S.next⟩) (gsS _ _ _) hcl c1 h5 h4 h6
    ((gsN _ _ h8).trans h2) h7 h8 hbd hid
   have hins : insL (cells ++ List.replicate (c * 5 - n * 5) .top) x i n = cells.take (i * 5) ++ (x ++ cells.drop (i * 5)) := by
    unfold insL
    rw [List.take_append_of_le_length (show i * 5 ≤ cells.length by omega), List.take_append_of_le_length (show n * 5 ≤ cells.length by omega), List.take_of_length_le (show cells.length ≤ n * 5 by omega), List.append_assoc]
   have hfl : flatL (flatF 2) (cells.take (i * 5) ++ (x ++ cells.drop (i * 5))) = true := by
    rw [flat_all] at h9 h10 ⊢
    intro y hy
    simp only [List.mem_append] at hy
    rcases hy with hy | hy | hy
    ·exact h9 y (List.mem_of_mem_take hy)
    ·exact h10 y hy
    ·exact h9 y (List.mem_of_mem_drop hy)
   have hil : (cells.take (i * 5) ++ (x ++ cells.drop (i * 5))).length = (n + 1) * 5 := by
    simp only [List.length_append, List.length_take, List.length_drop]; omega
   obtain ⟨k1, k2⟩ := calls_of hr hp hg c4 hl2 hc
   refine ⟨k1, k2.mono ?_⟩
   rintro e w' ⟨x', v', T, ρ', rfl, r1, r2, r3, r4⟩
   have hK := c5.trans r4
   have hold : ∀ j, j ≠ id → j < S.next → T.h.get j = S.h.get j := fun j hj hlt => (r2.hold j hj hlt).trans (gsN _ _ hj)
   rcases r2.lies with ⟨rfl, a1, cT, a2, a3, a4⟩ | ⟨jd, a1, rfl, a2, a3⟩
   ·simp only [VRel] at r1
    obtain ⟨plT, c', p1, p2, p3, p4, p5, p6⟩ := r1
    rw [hins] at a4
    obtain ⟨hle, q1, q2⟩ := R.land hR r3 hK (jd := id) (m := (n + 1) * 5) (cells' := cells.take (i * 5) ++ (x ++ cells.drop (i * 5))) h1 ⟨_, _, a2⟩ hold (.inl rfl) a2 p1 (by have : (n + 1) * 5 ≤ c * 5 := Nat.mul_le_mul_right _ a1; omega) a4.symm hfl
    refine ⟨x', _, rfl, ?_, q1, q2⟩
    rcases p6 with ⟨e1, e2, e3⟩ | ⟨e1, _⟩
    ·refine VRel.slice_mk ⟨plT.b, plT.base, (n + 1) * 5, plT.N, hle⟩ c' (by simp) (Nat.le_refl _) (by omega) p4 p5 (.inl ⟨e1, e2, fun k hk => by cases hk⟩)
    ·omega
   ·simp only [VRel] at r1
    obtain ⟨plT, c', p1, p2, p3, p4, p5, p6⟩ := r1
    rw [hins] at a2
    obtain ⟨hle, q1, q2⟩ := R.land hR r3 hK (jd := jd) (m := (n + 1) * 5) (cells' := cells.take (i * 5) ++ (x ++ cells.drop (i * 5))) h1 ⟨_, _, a3.trans (gsS _ _ _)⟩ hold (.inr a1) a2 p1 (Nat.le_of_eq hil.symm) (List.take_of_length_le (Nat.le_of_eq hil)).symm hfl
    refine ⟨x', _, rfl, ?_, q1, q2⟩
    rcases p6 with ⟨e1, e2, e3⟩ | ⟨e1, _⟩
    ·refine VRel.slice_mk ⟨plT.b, plT.base, (n + 1) * 5, plT.N, hle⟩ c' (by simp) (Nat.le_refl _) (by omega) p4 p5 (.inl ⟨e1, e2, fun k hk => by cases hk⟩)
    ·omega
 ·cases hq
variable {Λ : LB}
theorem fn34 : C8.fns.get 34 = some Tryz.f34 := by kernel_rfl
theorem ok34 : codeOk C8 Tryz.f34.ntmps (Tryz.f34.body.getD .skip) = true := by kernel_rfl
theorem nt34 : Tryz.f34.ntmps = 33 := by kernel_rfl
section
variable {S : AS} {F : Fr} {id g off len lim c : Nat}
theorem sliceV_max {lo hi mx : Option Operand} {l k m : Nat} (hs : isS hi = true) (hl : bound F lo 0 = some l) (hh : bound F hi len = some k) (hm : bound F mx c = some m) (h1 : l ≤ k) (h2 : k ≤ m) (h3 : m ≤ c) :
  sliceV C8 F 78 (.slice id g off len lim 5 (some c)) lo hi mx = some (cutV id g off lim 5 l k m) := by
 have hb : bounds F len (roomOf len (some c)) lo hi mx = some (l, k, m) := by
  unfold bounds
  rw [hl, hh]
  have e : bound F mx (roomOf len (some c)) = some m := hm
  rw [e]
  simp [nble, h1, h2, h3, roomOf, hs]
 unfold sliceV
 simp only [un78, sz80, hb, nbeq, decide_true, cond_true, Bool.or_true, isS]
theorem append_none {bs : Nat} {x : AV} {cap : Option Nat} (ht : taken S 5 x = some (0, [])) : appendV S 80 5 bs (.slice id g off len lim 5 cap) x = some (.slice id g off len lim 5 cap, S) := by
 unfold appendV
 simp only [ht, nbeq, decide_true, cond_true]
theorem taken_zero {cap : Option Nat} : taken S 5 (.slice id g off 0 lim 5 cap) = some (0, []) := by
 show cond (Nat.beq 5 5) (some (0, ([] : List AV))) none = _
 rw [nbeq]; simp
theorem clear_one {cells : List AV} {top : Nat} {cap : Option Nat} {ts : List TypeId} (h : S.h.get id = some (.row cells top top false 80)) (hl : off + 5 ≤ lim) (ho : off ≤ cells.length) :
  builtinV C8 S .clear (78 :: ts) [.slice id top off 1 lim 5 cap] = .val .undef ⟨S.h.set id (.row (cells.take off ++ zeroE ++ cells.drop (off + 5)) top top false 80), S.next⟩ := by
 show vals? (clearV C8 S 78 (.slice id top off 1 lim 5 cap)) 17 = _
 unfold clearV
 simp only [un78, sz80, ze80, cellsOf_agg]
 have h1 : (Nat.beq 5 5 && Nat.beq (lenL zeroE) 5) = true := by rw [zaI]; rfl
 rw [h1]
 simp only [cond_true]
 have h2 : repL 1 zeroE = zeroE := by show appL zeroE [] = _; rw [zaK, List.append_nil]
 rw [h2, wr_at, h, wrO_row]
 have h3 : zeroE.length = 5 := rfl
 rw [if_pos ⟨rfl, by rw [h3]; exact hl, rfl⟩, splice_lit ho, h3]
 rfl
end
def delL (cells : List AV) (i n : Nat) : List AV := cells.take (i * 5) ++ (cells.take (n * 5)).drop ((i + 1) * 5)
structure DelAt (S T : AS) (id top c n i : Nat) (cells : List AV) (v : AV) : Prop where
 lies : v = .slice id top 0 (n - 1) (c * 5) 5 (some c)
 row : ∃ cT, T.h.get id = some (.row cT top top false 80) ∧ cT.length = c * 5 ∧ cT.take ((n - 1) * 5) = delL cells i n
 hold : ∀ j, j ≠ id → T.h.get j = S.h.get j
 next : T.next = S.next
theorem del34 {S : AS} {id top c n i : Nat} {cells : List AV} (hrow : S.h.get id = some (.row cells top top false 80)) (hcl : cells.length = c * 5) (hn : n ≤ c) (hi : i < n) (hf : fits n 48 = true) :
  CallW C8 34 [.slice id top 0 n (c * 5) 5 (some c), .int .i64 (i : Int), .int .i64 ((i + 1 : Nat) : Int)] S fun v T => DelAt S T id top c n i cells v := by
 have hf' : n ≤ 4611686018427387904 := by
  unfold fits at hf
  simp only [nble, Bool.and_eq_true, decide_eq_true_eq] at hf
  exact hf.1
 refine enterW (pu8 _) (pr8 _) fn34 rfl ok34 (by simp) fun F hn' hs => ?_
 rw [nt34] at hn'
 have s0 := hs 0
 have s1 := hs 1
 have s2 := hs 2
 clear hs
 simp only [List.getElem?_cons_zero, List.getElem?_cons_succ, Option.getD_some] at s0 s1 s2
 have hne : ((i : Int) = ((i + 1 : Nat) : Int)) = False := by simp; omega
 have hli : (cells.take (i * 5)).length = i * 5 := by rw [List.length_take]; omega
 have e13 : ∀ G : Fr, sl G 9 = .int .i64 (i : Int) → sl G 10 = .int .i64 ((i + 1 : Nat) : Int) → sl G 12 = .int .i64 (n : Int) → sliceV C8 G 78 (.slice id top 0 n (c * 5) 5 (some c)) (some (.tmp 9)) (some (.tmp 10)) (some (.tmp 12)) = some (cutV id top 0 (c * 5) 5 i (i + 1) n) := fun G h1 h2 h3 =>
  sliceV_max rfl (by rw [zaB, zaE, h1, zaG]) (by rw [zaB, zaE, h2, zaG]) (by rw [zaB, zaE, h3, zaG]) (by omega) (by omega) hn
 have e22 : ∀ G : Fr, sl G 21 = .int .i64 (i : Int) → sliceV C8 G 78 (.slice id top 0 n (c * 5) 5 (some c)) none (some (.tmp 21)) none = some (.slice id top 0 i (c * 5) 5 (some c)) := fun G h1 => by
  rw [zbM (l := 0) (k := i) zaU (by rw [zaB, zaE, h1, zaG]) (by omega) (by omega)]
  unfold cutV
  rw [nbeq, decide_eq_false (by omega)]
  simp [zaC]
 have e25 : ∀ G : Fr, sl G 24 = .int .i64 ((i + 1 : Nat) : Int) → sliceV C8 G 78 (.slice id top 0 n (c * 5) 5 (some c)) (some (.tmp 24)) none none = some (cutV id top 0 (c * 5) 5 (i + 1) n c) := fun G h1 =>
  zbM (by rw [zaB, zaE, h1, zaG]) zaU (by omega) hn
 have e31 : ∀ G : Fr, sl G 29 = .int .i64 ((n - 1 : Nat) : Int) → sl G 30 = .int .i64 (n : Int) → sliceV C8 G 78 (.slice id top 0 (n - 1) (c * 5) 5 (some c)) (some (.tmp 29)) (some (.tmp 30)) none = some (.slice id top ((n - 1) * 5) 1 (c * 5) 5 (some (c - (n - 1)))) := fun G h1 h2 => by
  rw [zbM (l := n - 1) (k := n) (by rw [zaB, zaE, h1, zaG]) (by rw [zaB, zaE, h2, zaG]) (by omega) (by omega), cutV_lt (by omega)]
  simp; omega
 obtain ⟨c1, hc1, hap, hl1⟩ : ∃ c1, c1.length = c * 5 ∧ (appendV S 80 5 48 (.slice id top 0 i (c * 5) 5 (some c)) (cutV id top 0 (c * 5) 5 (i + 1) n c) = some (.slice id top 0 (n - 1) (c * 5) 5 (some c), ⟨S.h.set id (.row c1 top top false 80), S.next⟩) ∨
   (n = i + 1 ∧ c1 = cells ∧ appendV S 80 5 48 (.slice id top 0 i (c * 5) 5 (some c)) (cutV id top 0 (c * 5) 5 (i + 1) n c) = some (.slice id top 0 (n - 1) (c * 5) 5 (some c), S))) ∧ c1.take ((n - 1) * 5) = delL cells i n := by
  by_cases hin : i + 1 = n
  ·refine ⟨cells, hcl, .inr ⟨hin.symm, rfl, ?_⟩, ?_⟩
   ·have tz : taken S 5 (cutV id top 0 (c * 5) 5 (i + 1) n c) = some (0, []) := by
     unfold cutV
     cases Nat.beq c (i + 1) <;> simp only [cond_true, cond_false, zaC]
     ·rw [show Nat.sub n (i + 1) = 0 from by show n - (i + 1) = 0; omega]; exact taken_zero
     ·exact taken_zero
    rw [append_none tz, show n - 1 = i by omega]
   ·unfold delL
    rw [show n - 1 = i by omega, hin, List.drop_eq_nil_of_le (by rw [List.length_take]; omega), List.append_nil]
  ·have hlt : i + 1 < c := by omega
   obtain ⟨m, hm⟩ : ∃ m, n - (i + 1) = m + 1 := ⟨n - (i + 1) - 1, by omega⟩
   have ht : taken S 5 (cutV id top 0 (c * 5) 5 (i + 1) n c) = some (m + 1, (cells.drop ((i + 1) * 5)).take ((m + 1) * 5)) := by
    rw [cutV_lt hlt, hm, taken_at hrow (Nat.le_refl _) (Nat.le_refl _) (by omega)]
    simp
   have hlen : ((cells.drop ((i + 1) * 5)).take ((m + 1) * 5)).length = (m + 1) * 5 := by rw [List.length_take, List.length_drop]; omega
   have hf1 : fits (i + (m + 1)) 48 = true := by
    unfold fits at hf ⊢
    simp only [nble, Bool.and_eq_true, decide_eq_true_eq] at hf ⊢
    refine ⟨by omega, Nat.le_trans (Nat.mul_le_mul_right 48 (show i + (m + 1) ≤ n by omega)) hf.2⟩
   have ha := append_room (off := 0) (len := i) (c := c) (lim := c * 5) (bs := 48) ht hrow (by omega) hf1 (by rw [hlen]; omega) (by omega)
   refine ⟨cells.take (0 + i * 5) ++ (cells.drop ((i + 1) * 5)).take ((m + 1) * 5) ++ cells.drop (0 + i * 5 + ((cells.drop ((i + 1) * 5)).take ((m + 1) * 5)).length), ?_, .inl ?_, ?_⟩
   ·rw [List.length_append, List.length_append, hlen, List.length_drop, List.length_take]; omega
   ·rw [ha, show i + (m + 1) = n - 1 by omega]
   ·unfold delL
    rw [Nat.zero_add, List.take_append_of_le_length (by rw [List.length_append, hlen, hli]; omega), List.take_of_length_le (by rw [List.length_append, hlen, hli]; omega), List.drop_take, show n * 5 - (i + 1) * 5 = (m + 1) * 5 by omega]
 obtain ⟨S1, hS1⟩ : ∃ S1 : AS, S1 = ⟨S.h.set id (.row c1 top top false 80), S.next⟩ := ⟨_, rfl⟩
 obtain ⟨S2, hap, r1, o1, n1⟩ : ∃ S2 : AS, appendV S 80 5 48 (.slice id top 0 i (c * 5) 5 (some c)) (cutV id top 0 (c * 5) 5 (i + 1) n c) = some (.slice id top 0 (n - 1) (c * 5) 5 (some c), S2) ∧ S2.h.get id = some (.row c1 top top false 80) ∧ (∀ j, j ≠ id → S2.h.get j = S.h.get j) ∧ S2.next = S.next := by
  rcases hap with h | ⟨_, rfl, h⟩
  ·exact ⟨_, h, gsS _ _ _, fun j hj => gsN _ _ hj, rfl⟩
  ·exact ⟨S, h, hrow, fun _ _ => rfl, rfl⟩
 have hclr := fun ts => clear_one (S := S2) (off := (n - 1) * 5) (lim := c * 5) (cap := some (c - (n - 1))) (ts := ts) r1 (by omega) (by omega)
 simp [s0, s1, s2, e13, hne, zbQ un78, okW_cutV, okV_cutV, -Int.natCast_add, hn']
 refine draws [.p, .p, .p, .p, .p, .p, .e [], .p] (n := 33) (by kernel_rfl) (by simp [hn']) ?_
 simp [s0, s1, s2, e22, e25, e31, hne, zbQ un78, okW_cutV, okV_cutV, -Int.natCast_add, hn', append_at, hap, hclr]
 refine ⟨rfl, ⟨_, gsS _ _ _, ?_, ?_⟩, fun j hj => (gsN _ _ hj).trans (o1 j hj), n1⟩
 ·simp only [List.length_append, List.length_take, List.length_drop]
  have : zeroE.length = 5 := rfl
  omega
 ·rw [List.take_append_of_le_length (by rw [List.length_take]; omega), List.take_take, Nat.min_self]
  exact hl1
def delA (S : AS) (id g off n lim i j : Nat) : Option (AV × AS) :=
 match S.h.get id with
 | some (.row cells _ top false ty) =>
  cond (Nat.beq g top && Nat.beq off 0 && Nat.beq (Nat.mul n 5) lim && Nat.beq (lenL cells) lim && Nat.blt i n && Nat.beq j (Nat.succ i) && Nat.beq ty 80 && fits n 48 && flatL (flatF 2) cells)
   (some (.slice id (Nat.succ top) 0 (Nat.pred n) (Nat.mul (Nat.pred n) 5) 5 none, ⟨S.h.set id (.row (appL (takeN (Nat.mul i 5) cells) (dropN (Nat.mul (Nat.succ i) 5) cells)) (Nat.succ top) (Nat.succ top) false 80), S.next⟩)) none
 | _ => none
def q34 (vs : List AV) (S : AS) : Option (AV × AS) :=
 match vs with
 | [.slice id g off n lim 5 none, .int .i64 (.ofNat i), .int .i64 (.ofNat j)] => delA S id g off n lim i j
 | _ => none
theorem delA_eq {S : AS} {id g off n lim i j : Nat} {r : AV × AS} (h : delA S id g off n lim i j = some r) : ∃ cells low, S.h.get id = some (.row cells low g false 80) ∧
  off = 0 ∧ lim = n * 5 ∧ cells.length = n * 5 ∧ i < n ∧ j = i + 1 ∧ fits n 48 = true ∧ flatL (flatF 2) cells = true ∧
  r = (.slice id (g + 1) 0 (n - 1) ((n - 1) * 5) 5 none, ⟨S.h.set id (.row (cells.take (i * 5) ++ cells.drop ((i + 1) * 5)) (g + 1) (g + 1) false 80), S.next⟩) := by
 unfold delA at h
 split at h
 ·rename_i cells low top ty h1
  simp only [nbeq, nblt, zaI, zaO, zaS, zaK] at h
  generalize hc : (decide (g = top) && decide (off = 0) && decide (Nat.mul n 5 = lim) && decide (cells.length = lim) && decide (i < n) && decide (j = Nat.succ i) && decide (ty = 80) && fits n 48 && flatL (flatF 2) cells) = cc at h
  cases cc with
  | false => cases h
  | true =>
   simp only [Bool.and_eq_true, decide_eq_true_eq] at hc
   obtain ⟨⟨⟨⟨⟨⟨⟨⟨rfl, rfl⟩, rfl⟩, c1⟩, c2⟩, rfl⟩, rfl⟩, c3⟩, c4⟩ := hc
   rw [cond_true] at h
   cases h
   exact ⟨cells, low, h1, rfl, rfl, c1, c2, rfl, c3, c4, rfl⟩
 ·cases h
theorem prim34 (hr : Ready Tryz.prog A8) : PrimOk Λ Tryz.prog 34 q34 := by
 have hp : ∀ x, x ∈ A8.prims → PrimOk Λ Tryz.prog x.1 x.2 := fun x hx => by cases hx
 have hg : ∀ x, x ∈ A8.globs → GlobOk Λ.w Λ.B x.1 x.2 := fun x hx => by cases hx
 intro ρ vs S w args v S' hR hl hq
 unfold q34 at hq
 split at hq
 ·rename_i id g off n lim i j
  obtain ⟨cells, low, h1, rfl, rfl, h3, h4, rfl, h6, h9, h11⟩ := delA_eq hq
  cases h11
  obtain ⟨y, ys, hy, hyr, y2, ys2, rfl, hyr2, y3, ys3, rfl, hyr3, rfl⟩ := (show ∃ y ys, args.toList = y :: ys ∧ VRel ρ (.slice id g 0 n (n * 5) 5 none) y ∧ ∃ y2 ys2, ys = y2 :: ys2 ∧ VRel ρ (.int .i64 (i : Int)) y2 ∧ ∃ y3 ys3, ys2 = y3 :: ys3 ∧ VRel ρ (.int .i64 ((i + 1 : Nat) : Int)) y3 ∧ ys3 = [] by
   simpa only [LRel, Int.ofNat_eq_natCast] using hl)
  obtain ⟨c, pl, c1, c2, c3, c4, c5⟩ := hR.roomy h1 h3 (by omega) hyr
  have hid := hR.dom id _ h1
  have hx := c5.ext
  have hl2 : LRel (put ρ id (g + 1) pl) [.slice id (g + 1) 0 n (c * 5) 5 (some c), .int .i64 (i : Int), .int .i64 ((i + 1 : Nat) : Int)] args.toList := by
   rw [hy]
   exact LRel.cons c3 (LRel.cons (hyr2.mono hx _ _) (LRel.cons (hyr3.mono hx _ _) LRel.nil))
  have hcl : (cells ++ List.replicate (c * 5 - n * 5) AV.top).length = c * 5 := by
   have : n * 5 ≤ c * 5 := Nat.mul_le_mul_right _ c1
   simp only [List.length_append, List.length_replicate]; omega
  have hc := del34 (id := id) (top := g + 1) (c := c) (n := n) (i := i) (S := ⟨S.h.set id (.row (cells ++ List.replicate (c * 5 - n * 5) .top) (g + 1) (g + 1) false 80), S.next⟩) (gsS _ _ _) hcl c1 h4 h6
  have hdel : delL (cells ++ List.replicate (c * 5 - n * 5) .top) i n = cells.take (i * 5) ++ cells.drop ((i + 1) * 5) := by
   unfold delL
   rw [List.take_append_of_le_length (show i * 5 ≤ cells.length by omega), List.take_append_of_le_length (show n * 5 ≤ cells.length by omega), List.take_of_length_le (show cells.length ≤ n * 5 by omega)]
  have hfl : flatL (flatF 2) (cells.take (i * 5) ++ cells.drop ((i + 1) * 5)) = true := by
   rw [flat_all] at h9 ⊢
   intro y hy
   simp only [List.mem_append] at hy
   rcases hy with hy | hy
   ·exact h9 y (List.mem_of_mem_take hy)
   ·exact h9 y (List.mem_of_mem_drop hy)
  have hil : (cells.take (i * 5) ++ cells.drop ((i + 1) * 5)).length = (n - 1) * 5 := by
   simp only [List.length_append, List.length_take, List.length_drop]; omega
  obtain ⟨k1, k2⟩ := calls_of hr hp hg c4 hl2 hc
  refine ⟨k1, k2.mono ?_⟩
  rintro e w' ⟨x', v', T, ρ', rfl, r1, r2, r3, r4⟩
  have hK := c5.trans r4
  have hold : ∀ j, j ≠ id → j < S.next → T.h.get j = S.h.get j := fun j hj hlt => (r2.hold j hj).trans (gsN _ _ hj)
  obtain ⟨cT, a2, a3, a4⟩ := r2.row
  rw [r2.lies] at r1
  simp only [VRel] at r1
  obtain ⟨plT, c', p1, p2, p3, p4, p5, p6⟩ := r1
  rw [hdel] at a4
  have hle5 : (n - 1) * 5 ≤ c * 5 := Nat.mul_le_mul_right _ (by omega)
  obtain ⟨hle, q1, q2⟩ := R.land hR r3 hK (jd := id) (m := (n - 1) * 5) (cells' := cells.take (i * 5) ++ cells.drop ((i + 1) * 5)) h1 ⟨_, _, a2⟩ hold (.inl rfl) a2 p1 (by omega) a4.symm hfl
  refine ⟨x', _, rfl, ?_, q1, q2⟩
  rcases p6 with ⟨e1, e2, e3⟩ | ⟨e1, e2, e3, _⟩
  ·refine VRel.slice_mk ⟨plT.b, plT.base, (n - 1) * 5, plT.N, hle⟩ c' (by simp) (Nat.le_refl _) (by omega) p4 p5 (.inl ⟨e1, e2, fun k hk => by cases hk⟩)
  ·have := e3 c rfl
   omega
 ·cases hq
end Go.Proofs.YtfempihpphbgmaaGreat.ins
namespace Go.Proofs.YtfempihpphbgmaaGreat.idx
open Go Go.Am Go.Proofs.YtfempihpphbgmaaGreat.mod
set_option linter.unusedVariables false
set_option linter.unusedSimpArgs false
theorem fn10 : C0.fns.get 10 = some Tryz.f10 := by kernel_rfl
theorem ok10 : codeOk C0 Tryz.f10.ntmps (Tryz.f10.body.getD .skip) = true := by kernel_rfl
theorem fn32 : C0.fns.get 32 = some Tryz.f32 := by kernel_rfl
theorem ok32 : codeOk C0 Tryz.f32.ntmps (Tryz.f32.body.getD .skip) = true := by kernel_rfl
theorem fn59 : C0.fns.get 59 = some Tryz.f59 := by kernel_rfl
theorem ok59 : codeOk C0 Tryz.f59.ntmps (Tryz.f59.body.getD .skip) = true := by kernel_rfl
theorem fn60 : C0.fns.get 60 = some Tryz.f60 := by kernel_rfl
theorem ok60 : codeOk C0 Tryz.f60.ntmps (Tryz.f60.body.getD .skip) = true := by kernel_rfl
theorem fn91 : C0.fns.get 91 = some Tryz.f91 := by kernel_rfl
theorem ok91 : codeOk C0 Tryz.f91.ntmps (Tryz.f91.body.getD .skip) = true := by kernel_rfl
@[simp] theorem st112 : slT C0 112 = some (5, 1, 1) := by kernel_rfl
@[simp] theorem ag5 : aggOf C0 5 = some false := by kernel_rfl
@[simp] theorem sz5 : szOf C0 5 = some 1 := by kernel_rfl
@[simp] theorem sT9 : strT C0 9 = true := by kernel_rfl
@[simp] theorem bE112 : bytE C0 112 = some 5 := by kernel_rfl
theorem okW_sl {S : AS} {v : AV} {sz : Nat} {cs : List AV} (h : Sl S v sz cs) : okW v = true := okW_of h.ok
theorem sl_bytes {S : AS} (l : List Nat) : Sl ⟨S.h.set S.next (.row (bytA l) 0 0 true 5), S.next + 1⟩ (.slice S.next 0 0 l.length l.length 1 none) 1 (bytA l) := by
 refine ⟨by simp [isSl, capB], ?_, by simp [sLen, bytA_len], by simp [bnd]⟩
 cases l with
 | nil => simp [rdS, bytA]
 | cons x l =>
  simp [rdS, rd_at, gsS, zbJ, bytA]
  rw [List.take_of_length_le (by simp)]
def badC (n : Nat) : Bool := decide ((n < 97 ∨ 122 < n) ∧ (n < 48 ∨ 57 < n) ∧ n ≠ 45 ∧ n ≠ 46 ∧ n ≠ 95)
def nameB (s : List Nat) : Bool := decide (s ≠ [] ∧ s.length ≤ 16 ∧ s.any badC = false)
section
variable {S : AS}
def nameC (n : Nat) : Bool := (decide ((n : Int) < 97) || decide (122 < (n : Int))) && (decide ((n : Int) < 48) || decide (57 < (n : Int))) && !decide ((n : Int) = 45) && !decide ((n : Int) = 46) && !decide ((n : Int) = 95)
theorem nameC_bad (n : Nat) : nameC n = badC n := by
 unfold nameC badC
 rw [Bool.eq_iff_iff]
 simp only [Bool.and_eq_true, Bool.or_eq_true, Bool.not_eq_true', decide_eq_true_eq, decide_eq_false_iff_not]
 omega
theorem bad29 (n : Nat) : CallW C0 59 [.int .u8 n] S fun r T => r = .bool (badC n) ∧ Sub S T := by
 rw [← nameC_bad]
 refine enterW (pu0 _) (pr0 _ rfl) fn59 rfl ok59 (by simp) fun F hn hs => ?_
 have s0 := hs 0
 clear hs
 simp only [List.getElem?_cons_zero, Option.getD_some] at s0
 unfold nameC
 by_cases a1 : (n : Int) < 97 <;> by_cases a2 : 122 < (n : Int) <;> by_cases a3 : (n : Int) < 48 <;> by_cases a4 : 57 < (n : Int) <;> by_cases a5 : (n : Int) = 45 <;> by_cases a6 : (n : Int) = 46 <;> by_cases a7 : (n : Int) = 95 <;>
  first | (exfalso; omega) | simp [s0, a1, a2, a3, a4, a5, a6, a7, Sub.refl]
theorem idx48 {u : AV} {l : List Nat} {f : FuncId} {caps : List AV} {P : Nat → Bool} (h : Sl S u 1 (bytA l)) (hb : l.length ≤ 9223372036854775807) (hf : C0.exts.get f = none)
  (hc : ∀ T, Sub S T → ∀ x, x ∈ l → CallW C0 f (.int .u8 (x : Int) :: caps) T fun v T' => v = .bool (P x) ∧ Sub T T') :
  CallW C0 91 [u, .func (.func f) [] caps] S fun v T => v = .int .i64 (idxI P l) ∧ Sub S T := by
 refine enterW (pu0 _) (pr0 _ rfl) fn91 rfl ok91 (by simp) fun F hn hs => ?_
 have s0 := hs 0
 have s1 := hs 1
 clear hs
 simp only [List.getElem?_cons_zero, List.getElem?_cons_succ, Option.getD_some] at s0 s1
 have u1 := h.sl
 have u2 : sLen u = l.length := by rw [h.len1, bytA_len]
 simp [s0, s1, u1, u2]
 refine zaH (idxH S u (.func (.func f) [] caps) l P) l.length (idxH_mk 0 (Sub.refl S) (by simp [s0]) (by simp [s1]) (by simp) (by simp) (Nat.zero_le _) rfl (by simp)) ?_
 rintro k F' S' hn' ⟨i, hsub, t0, t1, t7, t8, hi, hk, ha⟩
 clear hn' s0 s1 hn
 by_cases hi' : i < l.length
 ·have hx : l[i]? = some l[i] := List.getElem?_eq_getElem hi'
  have hl := loadT_sl (cx := C0) (e := 5) (h.toSub hsub) (k := i) (x := .int .u8 (l[i] : Int)) (by unfold bytA; rw [List.getElem?_map, hx]; rfl) ag5
  obtain ⟨v, T', ⟨rfl, hs⟩, e⟩ := (hc S' hsub l[i] (List.getElem_mem hi')).ex
  cases hp : P l[i] with
  | true => simp [t0, t1, t7, t8, u1, u2, hi', hl, e, hp, hf, hsub.trans hs, idxI_at hx hp ha]
  | false =>
   simp [t0, t1, t7, t8, u1, u2, hi', hl, e, hp, hf]
   exact ⟨l.length - (i + 1), by omega, idxH_mk (i + 1) (hsub.trans hs) (by simp [t0]) (by simp [t1]) (by simp [t7]) (by simp [zaP (show i < 9223372036854775807 by omega)]) hi' rfl (take_step hx hp ha)⟩
 ·have hall : ∀ x, x ∈ l → P x = false := fun x hx => ha x (by rw [List.take_of_length_le (by omega)]; exact hx)
  simp [t7, t8, hi', idxI_none hall, hsub]
theorem con30 {u : AV} {l : List Nat} {f : FuncId} {caps : List AV} {P : Nat → Bool} (h : Sl S u 1 (bytA l)) (hb : l.length ≤ 9223372036854775807) (hf : C0.exts.get f = none)
  (hc : ∀ T, Sub S T → ∀ x, x ∈ l → CallW C0 f (.int .u8 (x : Int) :: caps) T fun v T' => v = .bool (P x) ∧ Sub T T') :
  CallW C0 60 [u, .func (.func f) [] caps] S fun v T => v = .bool (l.any P) ∧ Sub S T := by
 obtain ⟨v, T, ⟨rfl, hs⟩, e⟩ := (idx48 h hb hf hc).ex
 refine enterW (pu0 _) (pr0 _ rfl) fn60 rfl ok60 (by simp) fun F hn hs => ?_
 have s0 := hs 0
 have s1 := hs 1
 clear hs
 simp only [List.getElem?_cons_zero, List.getElem?_cons_succ, Option.getD_some] at s0 s1
 simp [s0, s1, e, ex0, hs, idxI_any]
theorem name32 (s : List Nat) : CallW C0 32 [.str s] S fun r T => r = .bool (nameB s) ∧ Sub S T := by
 have hs1 : Sub S ⟨S.h.set S.next (.row (bytA s) 0 0 true 5), S.next + 1⟩ := sub1
 refine enterW (pu0 _) (pr0 _ rfl) fn32 rfl ok32 (by simp) fun F hn hs => ?_
 have s0 := hs 0
 clear hs
 simp only [List.getElem?_cons_zero, Option.getD_some] at s0
 unfold nameB
 by_cases h1 : s = []
 ·subst h1
  simp [s0, eqS_eq, Sub.refl]
 by_cases h2 : (s.length : Int) ≤ 16
 ·have h2' : s.length ≤ 16 := by omega
  obtain ⟨r, T, ⟨rfl, hT⟩, e⟩ := (con30 (f := 59) (caps := []) (P := badC) (sl_bytes (S := S) s) (by omega) (ex0 _ rfl) (fun T hT x hx => bad29 x)).ex
  have tb := fun (F : Fr) (dst : Option Tmp) (ty : TypeId) (pos : String) (af : Array Edge) (gd : Option (Nat × Bool)) (x : Tmp) (a : sl F x = .str s) => aop_bytes (cx := C0) (F := F) (S := S) (dst := dst) (ty := ty) (pos := pos) (af := af) (gd := gd) (a := 9) (b := 112) ((zaE F x).trans a) strOf_str sT9 bE112
  cases ha : s.any badC <;> rw [ha] at e <;> simp [s0, eqS_eq, h1, h2, h2', tb, e, ex0, hs1.trans hT, zaY un9, ha]
 ·have h2' : ¬ s.length ≤ 16 := by omega
  simp [s0, eqS_eq, h1, h2, h2', Sub.refl, zaY un9]
end
def okAt (l : List Att) (i : Nat) : Bool := match l[i]? with
 | none => true
 | some a => nameB a.name && mayV a.val && (match i with | 0 => true | j + 1 => (match l[j]? with | some b => ltS b.name a.name | none => true))
def mayL (l : List Att) : Bool := (List.range l.length).all (okAt l)
def evMay (key : List Nat) (l : List Att) : Bool := mayL l && decide (key.length ≤ 16) && decide (l.length ≤ 8)
theorem mayL_bad {l : List Att} {i : Nat} (hi : i < l.length) (h : okAt l i = false) : mayL l = false := by
 unfold mayL
 rw [List.all_eq_false]
 exact ⟨i, List.mem_range.2 hi, by simp [h]⟩
theorem mayL_good {l : List Att} (h : ∀ i, i < l.length → okAt l i = true) : mayL l = true := by
 unfold mayL
 rw [List.all_eq_true]
 exact fun i hi => h i (List.mem_range.1 hi)
theorem okAt_0 {l : List Att} {a : Att} (h : l[0]? = some a) : okAt l 0 = (nameB a.name && mayV a.val) := by unfold okAt; rw [h]; simp
theorem okAt_s {l : List Att} {j : Nat} {a b : Att} (h : l[j + 1]? = some a) (hb : l[j]? = some b) : okAt l (j + 1) = (nameB a.name && mayV a.val && ltS b.name a.name) := by unfold okAt; rw [h]; simp only [hb]
theorem okAt_n {l : List Att} {i : Nat} {a : Att} (h : l[i]? = some a) (hn : nameB a.name = false) : okAt l i = false := by unfold okAt; rw [h]; simp [hn]
theorem okAt_v {l : List Att} {i : Nat} {a : Att} (h : l[i]? = some a) (hn : mayV a.val = false) : okAt l i = false := by unfold okAt; rw [h]; simp [hn]
theorem ok_step {l : List Att} {i : Nat} (h : ∀ j, j < i → okAt l j = true) (hi : okAt l i = true) : ∀ j, j < i + 1 → okAt l j = true := fun j hj => by
 by_cases e : j = i
 ·rw [e]; exact hi
 ·exact h j (by omega)
theorem nt10e : Tryz.f10.ntmps = 50 := by kernel_rfl
@[simp] theorem binS_geq {a b : List Nat} : binS .geq a b = some (.bool (!ltS a b)) := rfl
def mayH (S1 : AS) (b : Nat) (u : AV) (l : List Att) (k : Nat) (F' : Fr) (S' : AS) : Prop :=
 ∃ i : Nat, Sub S1 S' ∧ (∀ j, j < i → okAt l j = true) ∧ sl F' 1 = .ptr b 0 0 2 ∧ sl F' 6 = u ∧ sl F' 7 = .int .i64 l.length ∧ sl F' 8 = .int .i64 i ∧ i ≤ l.length ∧ k = l.length - i
theorem mayH_mk {S1 : AS} {b : Nat} {u : AV} {l : List Att} {k : Nat} {F' : Fr} {S' : AS} (i : Nat) (h1 : Sub S1 S') (h2 : ∀ j, j < i → okAt l j = true) (h3 : sl F' 1 = .ptr b 0 0 2) (h4 : sl F' 6 = u) (h5 : sl F' 7 = .int .i64 l.length) (h6 : sl F' 8 = .int .i64 i) (h7 : i ≤ l.length) (h8 : k = l.length - i) : mayH S1 b u l k F' S' :=
 ⟨i, h1, h2, h3, h4, h5, h6, h7, h8⟩
section
variable {S : AS}
set_option maxRecDepth 20000 in
set_option maxHeartbeats 1000000 in
theorem evMay10 {key : List Nat} {u : AV} {l : List Att} (hu : AttsAt S u l) : CallW C0 10 [.agg [.str key, u]] S fun r T => r = .bool (evMay key l) ∧ Sub S T := by
 have hS1 : Sub S ⟨S.h.set S.next (.row [.str key, u] 0 0 false 33), S.next + 1⟩ := sub1
 have u1 := hu.sl.sl
 have u2 := hu.sl.len_flat zcA (by omega)
 have uk := okW_sl hu.sl
 have hle := hu.le
 have hold := hu.sl.old
 refine enterW (pu0 _) (pr0 _ rfl) fn10 rfl ok10 (by simp) fun F hn hs' => ?_
 rw [nt10e] at hn
 have s0 := hs' 0
 clear hs'
 simp only [List.getElem?_cons_zero, Option.getD_some] at s0
 simp [s0, u1, u2, uk, hu.sl.cells]
 refine zaH (mayH ⟨S.h.set S.next (.row [.str key, u] 0 0 false 33), S.next + 1⟩ S.next u l) l.length (mayH_mk 0 (Sub.refl _) (fun j hj => by omega) (by simp) (by simp) (by simp) (by simp) (Nat.zero_le _) rfl) ?_
 rintro k F' S' hn' ⟨i, q2, qa, t1, t6, t7, t8, hi, hk'⟩
 have hn2 : F'.n = 50 := by rw [hn']; simp [hn]
 clear hn' hn s0
 have hSn : S.next + 1 ≤ S'.next := q2.next
 have gb : S'.h.get S.next = some (.row [.str key, u] 0 0 false 33) := by rw [q2.h _ (Nat.lt_succ_self _)]; exact gsS _ _ _
 by_cases hi' : i < l.length
 ·have hx : l[i]? = some l[i] := List.getElem?_eq_getElem hi'
  have huS := hu.sub (hS1.trans q2)
  have hlo := zbC (cx := C0) (e := 65) huS.sl zcA (by omega) hx ag65 sz65
  have hbad : okAt l i = false → evMay key l = false := fun h => by unfold evMay; rw [mayL_bad hi' h]; rfl
  generalize l[i] = a at hx hlo
  have hZ : Sub S' ⟨(S'.h.set S'.next (.row [.str [], .int .i64 0, .int .i64 0, .str [], .bool false] 0 0 false 65)).set S'.next (.row (encA a) 0 0 false 65), S'.next + 1⟩ := sub1s
  obtain ⟨r, T1, ⟨rfl, hT1⟩, e1⟩ := (name32 (S := ⟨(S'.h.set S'.next (.row [.str [], .int .i64 0, .int .i64 0, .str [], .bool false] 0 0 false 65)).set S'.next (.row (encA a) 0 0 false 65), S'.next + 1⟩) a.name).ex
  obtain ⟨r, T2, ⟨rfl, hT2⟩, e2⟩ := (mayIs a.val T1).ex
  have hT1n : S'.next + 1 ≤ T1.next := hT1.next
  have hT2n := hT2.next
  have c0 : (⟨(S'.h.set S'.next (.row [.str [], .int .i64 0, .int .i64 0, .str [], .bool false] 0 0 false 65)).set S'.next (.row (encA a) 0 0 false 65), S'.next + 1⟩ : AS).h.get S'.next = some (.row (encA a) 0 0 false 65) := gsS _ _ _
  have c1 : T1.h.get S'.next = some (.row (encA a) 0 0 false 65) := by rw [hT1.h _ (Nat.lt_succ_self _)]; exact c0
  have c2 : T2.h.get S'.next = some (.row (encA a) 0 0 false 65) := by rw [hT2.h _ (by omega)]; exact c1
  have hZ1 := hZ.trans hT1
  have hZ2 := hZ1.trans hT2
  have gb2 : T2.h.get S.next = some (.row [.str key, u] 0 0 false 33) := by rw [hZ2.h _ (by omega)]; exact gb
  have gb1 : T1.h.get S.next = some (.row [.str key, u] 0 0 false 33) := by rw [hZ1.h _ (by omega)]; exact gb
  have hS2 := (hS1.trans q2).trans hZ2
  have hS3 := (hS1.trans q2).trans hZ1
  have hwi := zaP (i := i) (by omega)
  simp only [encA, encV] at hlo e1 e2 c0 c1 c2
  simp [t1, t6, t7, t8, u1, u2, hi', hlo, hn2]
  refine draws [.p, .r 0 0, .e [], .p, .p, .p, .r 0 0, .e [], .p, .p, .p, .p, .p, .p, .p, .r 0 0, .p, .p, .p, .p, .r 0 0, .p, .r 0 0, .p, .p, .p] (n := 50) (by kernel_rfl) (by simp [hn2]) ?_
  cases hb1 : nameB a.name with
  | false =>
   rw [hb1] at e1
   rw [hbad (okAt_n hx hb1)]
   simp [t1, t6, t7, t8, e1, ex0, c1, gb1]
   exact hS3
  | true =>
   rw [hb1] at e1
   cases hb2 : mayV a.val with
   | false =>
    rw [hb2] at e2
    rw [hbad (okAt_v hx hb2)]
    simp [t1, t6, t7, t8, e1, e2, ex0, c1, c2, gb1, gb2]
    exact hS2
   | true =>
    rw [hb2] at e2
    by_cases h0 : i = 0
    ·have h0' : (i : Int) = 0 := by omega
     subst h0
     have hst := ok_step qa (by rw [okAt_0 hx, hb1, hb2]; rfl)
     simp at t8 hwi
     simp [t1, t6, t7, t8, e1, e2, ex0, c1, c2, gb1, gb2]
     exact ⟨l.length - (0 + 1), by omega, mayH_mk (0 + 1) (q2.trans hZ2) hst (by simp [t1]) (by simp [t6]) (by simp [t7]) (by simp; decide) hi' rfl⟩
    ·obtain ⟨j, rfl⟩ : ∃ j, i = j + 1 := ⟨i - 1, by omega⟩
     have hj : j < l.length := by omega
     have hxj : l[j]? = some l[j] := List.getElem?_eq_getElem hj
     have hu2 := hu.sub hS2
     have hpp := isP_pAt (k := j) u1 (by rw [u2]; exact hj)
     have hlp := loadT_elf (cx := C0) (e := 9) (o := 0) (y := .str l[j].name) hu2.sl zcA (by omega) hxj rfl ag9
     have hwj : IntKind.i64.wrap ((j : Int) + 1 - 1) = (j : Int) := by
      rw [show ((j : Int) + 1 - 1) = (j : Int) by omega]; exact wrap_nat (by omega)
     have hwj' : IntKind.i64.wrap (j : Int) = (j : Int) := wrap_nat (by omega)
     have hgt : (0 : Int) < (j : Int) + 1 := by omega
     have hoks := okAt_s hx hxj
     rw [hb1, hb2] at hoks
     generalize l[j] = b at hlp hoks hxj
     simp at hwi t8
     cases hlt : ltS b.name a.name with
     | true =>
      rw [hlt] at hoks
      simp [t1, t6, t7, t8, e1, e2, ex0, c1, c2, gb1, gb2, h0, hgt, hwj, hwj', u1, u2, uk, hj, fieldP_add hpp, hlp, hlt, hwi]
      exact ⟨l.length - (j + 1 + 1), by omega, mayH_mk (j + 1 + 1) (q2.trans hZ2) (ok_step qa hoks) (by simp [t1]) (by simp [t6]) (by simp [t7]) (by simp [hwi]) hi' rfl⟩
     | false =>
      rw [hlt] at hoks
      rw [hbad hoks]
      simp [t1, t6, t7, t8, e1, e2, ex0, c1, c2, gb1, gb2, h0, hgt, hwj, hwj', u1, u2, uk, hj, fieldP_add hpp, hlp, hlt, hwi]
      exact hS2
 ·have hie : i = l.length := by omega
  subst hie
  have hsub := hS1.trans q2
  have hml := mayL_good qa
  unfold evMay
  rw [hml]
  by_cases k1 : key.length ≤ 16
  ·have k1' : (key.length : Int) ≤ 16 := by omega
   by_cases k2 : l.length ≤ 8
   ·have k2' : (l.length : Int) ≤ 8 := by omega
    simp [t1, t6, t7, t8, gb, k1, k2, k1', k2', u1, u2, uk, zaY un9]
    exact hsub
   ·have k2' : ¬ (l.length : Int) ≤ 8 := by omega
    simp [t1, t6, t7, t8, gb, k1, k2, k1', k2', u1, u2, uk, zaY un9]
    exact hsub
  ·have k1' : ¬ (key.length : Int) ≤ 16 := by omega
   simp [t1, t6, t7, t8, gb, k1, k1', u1, u2, uk, zaY un9]
   exact hsub
end
theorem fn56 : C0.fns.get 56 = some Tryz.f56 := by kernel_rfl
theorem ok56 : codeOk C0 Tryz.f56.ntmps (Tryz.f56.body.getD .skip) = true := by kernel_rfl
theorem fn93 : C0.fns.get 93 = some Tryz.f93 := by kernel_rfl
theorem ok93 : codeOk C0 Tryz.f93.ntmps (Tryz.f93.body.getD .skip) = true := by kernel_rfl
structure Ent where
 v : Val
 n : Nat
def encE (e : Ent) : List AV := encV e.v ++ [.int .u64 (e.n : Int)]
theorem zaR (e : Ent) : (encE e).length = 5 := rfl
def ordE (a b : Ent) : Int := if cmpV a.v b.v = 0 then cmpI (a.n : Int) (b.n : Int) else cmpV a.v b.v
section
variable {S : AS}
theorem nan89 (a : Int) {Q : AV → AS → Prop} : CallW C0 89 [.int .u64 a] S Q = Q (.bool false) S := by
 refine CallW.eq (enterW (pu0 _) (pr0 _ rfl) fn89 rfl ok89 (by simp) fun F hn hs => ?_)
 have s0 := hs 0
 clear hs
 simp only [List.getElem?_cons_zero, Option.getD_some] at s0
 simp [s0]
theorem cmp56 (a b : Int) {Q : AV → AS → Prop} : CallW C0 56 [.int .u64 a, .int .u64 b] S Q = Q (.int .i64 (cmpI a b)) S := by
 refine CallW.eq (enterW (pu0 _) (pr0 _ rfl) fn56 rfl ok56 (by simp) fun F hn hs => ?_)
 have s0 := hs 0
 have s1 := hs 1
 clear hs
 simp only [List.getElem?_cons_zero, List.getElem?_cons_succ, Option.getD_some] at s0 s1
 unfold cmpI
 by_cases h1 : a < b
 ·simp [s0, s1, h1, ex0, nan89]
 by_cases h2 : b < a
 ·simp [s0, s1, h1, h2, ex0, nan89]
 simp [s0, s1, h1, h2, ex0, nan89]
theorem order30 (a b : Ent) : CallW C0 30 [.agg (encE a), .agg (encE b)] S fun r T => r = .int .i64 (ordE a b) ∧ Sub S T := by
 have hS : Sub S ⟨(S.h.set S.next (.row (encE a) 0 0 false 80)).set (S.next + 1) (.row (encE b) 0 0 false 80), S.next + 2⟩ := sub2
 obtain ⟨r, T, ⟨rfl, hT⟩, e⟩ := (compare a.v b.v ⟨(S.h.set S.next (.row (encE a) 0 0 false 80)).set (S.next + 1) (.row (encE b) 0 0 false 80), S.next + 2⟩).ex
 have g0 : T.h.get S.next = some (.row (encE a) 0 0 false 80) := by
  rw [hT.h _ (by show S.next < S.next + 2; omega)]
  simp only [gsN _ _ (show S.next ≠ S.next + 1 by omega)]; exact gsS _ _ _
 have g1 : T.h.get (S.next + 1) = some (.row (encE b) 0 0 false 80) := by
  rw [hT.h _ (by show S.next + 1 < S.next + 2; omega)]; exact gsS _ _ _
 refine enterW (pu0 _) (pr0 _ rfl) fn30 rfl ok30 (by simp) fun F hn hs => ?_
 have s0 := hs 0
 have s1 := hs 1
 clear hs
 simp only [List.getElem?_cons_zero, List.getElem?_cons_succ, Option.getD_some, encE, encV, List.cons_append, List.nil_append] at s0 s1 e g0 g1
 unfold ordE
 by_cases h : cmpV a.v b.v = 0
 ·simp [s0, s1, ex0, e, h, g0, g1, cmp56, hS.trans hT]
 ·simp [s0, s1, ex0, e, h, g0, g1, cmp56, hS.trans hT]
theorem u64_nat {n : Nat} (h : n < 18446744073709551616) : IntKind.u64.wrap (n : Int) = (n : Int) := by
 simp [IntKind.wrap, IntKind.bits, IntKind.signed]; omega
def bsH (S1 : AS) (u cf tg : AV) (tt nt n k : Nat) (m : Nat) (F' : Fr) (S' : AS) : Prop :=
 ∃ lo hi : Nat, Sub S1 S' ∧ sl F' 0 = u ∧ sl F' 2 = cf ∧ sl F' tt = tg ∧ sl F' 8 = .int .i64 n ∧ sl F' 9 = .int .i64 lo ∧ sl F' 10 = .int .i64 hi ∧ lo ≤ k ∧ k ≤ hi ∧ hi ≤ n ∧ m = hi - lo ∧ F'.n = nt
theorem bsH_mk {S1 : AS} {u cf tg : AV} {tt nt n k : Nat} {m : Nat} {F' : Fr} {S' : AS} (lo hi : Nat) (h1 : Sub S1 S') (h2 : sl F' 0 = u) (h3 : sl F' 2 = cf) (h4 : sl F' tt = tg) (h5 : sl F' 8 = .int .i64 n) (h6 : sl F' 9 = .int .i64 lo) (h7 : sl F' 10 = .int .i64 hi)
  (h8 : lo ≤ k) (h9 : k ≤ hi) (h10 : hi ≤ n) (h11 : m = hi - lo) (h12 : F'.n = nt) : bsH S1 u cf tg tt nt n k m F' S' := ⟨lo, hi, h1, h2, h3, h4, h5, h6, h7, h8, h9, h10, h11, h12⟩
theorem nt29 : Tryz.f29.ntmps = 49 := by kernel_rfl
theorem nt93 : Tryz.f93.ntmps = 49 := by kernel_rfl
structure Cut {α : Type} (g : α → Int) (L : List α) (k : Nat) : Prop where
 le : k ≤ L.length
 lt : ∀ i x, L[i]? = some x → (g x < 0 ↔ i < k)
def foundB {α : Type} (g : α → Int) (L : List α) (k : Nat) : Bool := match L[k]? with | some x => decide (g x = 0) | none => false
set_option maxRecDepth 20000 in
theorem search93 {u : AV} {L : List Ent} {f : FuncId} {caps : List AV} {g : Ent → Int} {k : Nat} (h : Sl S u 5 (L.flatMap encE)) (hb : L.length ≤ 4611686018427387904) (hf : (f == 132) = false) (hk : Cut g L k)
  (hc : ∀ T, Sub S T → ∀ x, x ∈ L → CallW C0 f (.agg (encE x) :: .bool true :: caps) T fun v T' => v = .int .i64 (g x) ∧ Sub T T') :
  CallW C0 93 [u, .bool true, .func (.func f) [] caps] S fun v T => v = .tuple [.int .i64 k, .bool (foundB g L k)] ∧ Sub S T := by
 have u1 := h.sl
 have u2 := h.len_flat zaR (by omega)
 have uk := okW_sl h
 refine enterW (pu0 _) (pr0 _ rfl) fn93 rfl ok93 (by simp) fun F hn hs => ?_
 rw [nt93] at hn
 have s0 := hs 0
 have s1 := hs 1
 have s2 := hs 2
 clear hs
 simp only [List.getElem?_cons_zero, List.getElem?_cons_succ, Option.getD_some] at s0 s1 s2
 simp [s0, s1, s2, u1, u2, uk]
 refine zaH (bsH S u (.func (.func f) [] caps) (.bool true) 1 49 L.length k) L.length (bsH_mk 0 L.length (Sub.refl S) (by simp [s0]) (by simp [s2]) (by simp [s1]) (by simp) (by simp) (by simp) (Nat.zero_le _) hk.le (Nat.le_refl _) rfl (by simp [hn])) ?_
 rintro m F' S' hn' ⟨lo, hi, q1, t0, t2, t1, t8, t9, t10, q2, q3, q4, q5, hn2⟩
 clear hn' hn s0 s1 s2
 by_cases hlt : lo < hi
 ·have hm : (lo + hi) / 2 < L.length := by omega
  obtain ⟨md, hmd⟩ : ∃ md, md = (lo + hi) / 2 := ⟨_, rfl⟩
  rw [← hmd] at hm
  have hx : L[md]? = some L[md] := List.getElem?_eq_getElem hm
  have hlo := zbC (cx := C0) (e := 80) (h.toSub q1) zaR (by omega) hx ag80 sz80
  obtain ⟨v, T', ⟨rfl, hs'⟩, e⟩ := (hc S' q1 L[md] (List.getElem_mem hm)).ex
  have hiff := hk.lt md _ hx
  have w1 : IntKind.i64.wrap ((lo : Int) + (hi : Int)) = ((lo + hi : Nat) : Int) := by rw [show (lo : Int) + (hi : Int) = ((lo + hi : Nat) : Int) by omega]; exact wrap_nat (by omega)
  have w2 : IntKind.u64.wrap ((lo + hi : Nat) : Int) = ((lo + hi : Nat) : Int) := u64_nat (by omega)
  have w3 : ∀ t c, binV C0 .shr t c (.int .u64 ((lo + hi : Nat) : Int)) (.int .u64 1) = some (.int .u64 (md : Int)) := fun t c => by
   have := shr_u64 (lo + hi) 1 (by omega) t c
   rw [show (2 : Nat) ^ 1 = 2 from rfl, ← hmd] at this
   exact this
  have w4 : IntKind.i64.wrap (md : Int) = (md : Int) := wrap_nat (by omega)
  have w5 := zaP (i := md) (by omega)
  by_cases hg : g L[md] < 0
  ·simp [t0, t1, t2, t8, t9, t10, hlt, -Int.natCast_add, w1, w2, w3, w4, w5, u1, u2, hm, hlo, e, ex0 f hf, hg]
   exact ⟨hi - (md + 1), by omega, bsH_mk (md + 1) hi (q1.trans hs') (by simp [t0]) (by simp [t2]) (by simp [t1]) (by simp [t8]) (by simp [w5, -Int.natCast_add]) (by simp [t10]) (by have := hiff.1 hg; omega) q3 q4 rfl (by simp [hn2])⟩
  ·simp [t0, t1, t2, t8, t9, t10, hlt, -Int.natCast_add, w1, w2, w3, w4, w5, u1, u2, hm, hlo, e, ex0 f hf, hg]
   exact ⟨md - lo, by omega, bsH_mk lo md (q1.trans hs') (by simp [t0]) (by simp [t2]) (by simp [t1]) (by simp [t8]) (by simp [t9]) (by simp) q2 (by have := fun h => hg (hiff.2 h); omega) (by omega) rfl (by simp [hn2])⟩
 ·obtain rfl : lo = k := by omega
  by_cases hkn : lo < L.length
  ·have hx : L[lo]? = some L[lo] := List.getElem?_eq_getElem hkn
   have hlo := zbC (cx := C0) (e := 80) (h.toSub q1) zaR (by omega) hx ag80 sz80
   obtain ⟨v, T', ⟨rfl, hs'⟩, e⟩ := (hc S' q1 L[lo] (List.getElem_mem hkn)).ex
   have hfd : foundB g L lo = decide (g L[lo] = 0) := by unfold foundB; rw [hx]
   rw [hfd]
   simp [t0, t1, t2, t8, t9, t10, hlt, -Int.natCast_add, u1, u2, uk, hkn, hlo, e, ex0 f hf, q1.trans hs']
  ·have hfd : foundB g L lo = false := by unfold foundB; rw [List.getElem?_eq_none (by omega)]
   rw [hfd]
   simp [t0, t1, t2, t8, t9, t10, hlt, -Int.natCast_add, u1, u2, uk, hkn, q1]
set_option maxRecDepth 20000 in
theorem search29 {u : AV} {L : List Ent} {one : Ent} {k : Nat} (h : Sl S u 5 (L.flatMap encE)) (hb : L.length ≤ 4611686018427387904) (hk : Cut (fun x => ordE x one) L k) :
  CallW C0 29 [u, .agg (encE one), .func (.func 30) [] []] S fun v T => v = .tuple [.int .i64 k, .bool (foundB (fun x => ordE x one) L k)] ∧ Sub S T := by
 have u1 := h.sl
 have u2 := h.len_flat zaR (by omega)
 have uk := okW_sl h
 have hS : Sub S ⟨S.h.set S.next (.row (encE one) 0 0 false 80), S.next + 1⟩ := sub1
 have hold := h.old
 refine enterW (pu0 _) (pr0 _ rfl) fn29 rfl ok29 (by simp) fun F hn hs => ?_
 rw [nt29] at hn
 have s0 := hs 0
 have s1 := hs 1
 have s2 := hs 2
 clear hs
 simp only [List.getElem?_cons_zero, List.getElem?_cons_succ, Option.getD_some] at s0 s1 s2
 have uc := h.cells
 simp [s0, s1, s2, u1, u2, uk, uc]
 refine zaH (bsH ⟨S.h.set S.next (.row (encE one) 0 0 false 80), S.next + 1⟩ u (.func (.func 30) [] []) (.ptr S.next 0 0 5) 4 49 L.length k) L.length (bsH_mk 0 L.length (Sub.refl _) (by simp [s0]) (by simp [s2]) (by simp; rfl) (by simp) (by simp) (by simp) (Nat.zero_le _) hk.le (Nat.le_refl _) rfl (by simp [hn])) ?_
 rintro m F' S' hn' ⟨lo, hi, q1, t0, t2, t4, t8, t9, t10, q2, q3, q4, q5, hn2⟩
 clear hn' hn s0 s1 s2
 have gb : S'.h.get S.next = some (.row (encE one) 0 0 false 80) := by rw [q1.h _ (Nat.lt_succ_self _)]; exact gsS _ _ _
 have lone : (encE one).length = 5 := rfl
 have tone : (encE one).take 5 = encE one := rfl
 by_cases hlt : lo < hi
 ·have hm : (lo + hi) / 2 < L.length := by omega
  obtain ⟨md, hmd⟩ : ∃ md, md = (lo + hi) / 2 := ⟨_, rfl⟩
  rw [← hmd] at hm
  have hx : L[md]? = some L[md] := List.getElem?_eq_getElem hm
  have hlo := zbC (cx := C0) (e := 80) (h.toSub (hS.trans q1)) zaR (by omega) hx ag80 sz80
  obtain ⟨v, T', ⟨rfl, hs'⟩, e⟩ := (order30 (S := S') L[md] one).ex
  have hiff := hk.lt md _ hx
  have w1 : IntKind.i64.wrap ((lo : Int) + (hi : Int)) = ((lo + hi : Nat) : Int) := by rw [show (lo : Int) + (hi : Int) = ((lo + hi : Nat) : Int) by omega]; exact wrap_nat (by omega)
  have w2 : IntKind.u64.wrap ((lo + hi : Nat) : Int) = ((lo + hi : Nat) : Int) := u64_nat (by omega)
  have w3 : ∀ t c, binV C0 .shr t c (.int .u64 ((lo + hi : Nat) : Int)) (.int .u64 1) = some (.int .u64 (md : Int)) := fun t c => by
   have := shr_u64 (lo + hi) 1 (by omega) t c
   rw [show (2 : Nat) ^ 1 = 2 from rfl, ← hmd] at this
   exact this
  have w4 : IntKind.i64.wrap (md : Int) = (md : Int) := wrap_nat (by omega)
  have w5 := zaP (i := md) (by omega)
  by_cases hg : ordE L[md] one < 0
  ·simp [t0, t4, t2, t8, t9, t10, hlt, -Int.natCast_add, w1, w2, w3, w4, w5, u1, u2, hm, hlo, e, ex0, hn2]
   refine draws [.p, .p, .p, .p, .r 0 0, .r 0 0, .e [], .p] (n := 49) (by kernel_rfl) (by simp [hn2]) ?_
   simp [t0, t4, t2, t8, t9, t10, hlt, -Int.natCast_add, w1, w2, w3, w4, w5, u1, u2, hm, hlo, e, ex0, hg, gb, lone, tone]
   exact ⟨hi - (md + 1), by omega, bsH_mk (md + 1) hi (q1.trans hs') (by simp [t0]) (by simp [t2]) (by simp [t4]) (by simp [t8]) (by simp [w5, -Int.natCast_add]) (by simp [t10]) (by have := hiff.1 hg; omega) q3 q4 rfl (by simp [hn2])⟩
  ·simp [t0, t4, t2, t8, t9, t10, hlt, -Int.natCast_add, w1, w2, w3, w4, w5, u1, u2, hm, hlo, e, ex0, hn2]
   refine draws [.p, .p, .p, .p, .r 0 0, .r 0 0, .e [], .p] (n := 49) (by kernel_rfl) (by simp [hn2]) ?_
   simp [t0, t4, t2, t8, t9, t10, hlt, -Int.natCast_add, w1, w2, w3, w4, w5, u1, u2, hm, hlo, e, ex0, hg, gb, lone, tone]
   exact ⟨md - lo, by omega, bsH_mk lo md (q1.trans hs') (by simp [t0]) (by simp [t2]) (by simp [t4]) (by simp [t8]) (by simp [t9]) (by simp) q2 (by have := fun h => hg (hiff.2 h); omega) (by omega) rfl (by simp [hn2])⟩
 ·obtain rfl : lo = k := by omega
  by_cases hkn : lo < L.length
  ·have hx : L[lo]? = some L[lo] := List.getElem?_eq_getElem hkn
   have hlo := zbC (cx := C0) (e := 80) (h.toSub (hS.trans q1)) zaR (by omega) hx ag80 sz80
   obtain ⟨v, T', ⟨rfl, hs'⟩, e⟩ := (order30 (S := S') L[lo] one).ex
   have hfd : foundB (fun x => ordE x one) L lo = decide (ordE L[lo] one = 0) := by unfold foundB; rw [hx]
   rw [hfd]
   simp [t0, t4, t2, t8, t9, t10, hlt, hn2]
   refine draws [.p, .p, .p, .p, .p, .p, .p, .p, .p, .r 0 0, .r 0 0, .e [], .p, .p, .p, .p] (n := 49) (by kernel_rfl) (by simp [hn2]) ?_
   simp [t0, t4, t2, t8, t9, t10, hlt, -Int.natCast_add, u1, u2, uk, hkn, hlo, e, ex0, gb, lone, tone]
   exact (hS.trans q1).trans hs'
  ·have hfd : foundB (fun x => ordE x one) L lo = false := by unfold foundB; rw [List.getElem?_eq_none (by omega)]
   rw [hfd]
   simp [t0, t4, t2, t8, t9, t10, hlt, hn2]
   refine draws [.p, .p, .p, .p, .p, .p, .p, .p, .p, .r 0 0, .r 0 0, .e [], .p, .p, .p, .p] (n := 49) (by kernel_rfl) (by simp [hn2]) ?_
   simp [t0, t4, t2, t8, t9, t10, hlt, -Int.natCast_add, u1, u2, uk, hkn]
   exact hS.trans q1
end
theorem fn35 : C0.fns.get 35 = some Tryz.f35 := by kernel_rfl
theorem ok35 : codeOk C0 Tryz.f35.ntmps (Tryz.f35.body.getD .skip) = true := by kernel_rfl
@[simp] theorem sz86 : szOf C0 86 = some 1 := by kernel_rfl
@[simp] theorem ze86 : zeroOf C0 86 = some (.nilf) := by kernel_rfl
@[simp] theorem ag86 : aggOf C0 86 = some false := by kernel_rfl
@[simp] theorem fa54_1 : fieldAt C0 54 1 = some 1 := by kernel_rfl
theorem fn63 : C0.fns.get 63 = some Tryz.f63 := by kernel_rfl
theorem ok63 : codeOk C0 Tryz.f63.ntmps (Tryz.f63.body.getD .skip) = true := by kernel_rfl
@[simp] theorem fa50_0 : fieldAt C0 50 0 = some 0 := by kernel_rfl
@[simp] theorem fa54_2 : fieldAt C0 54 2 = some 2 := by kernel_rfl
theorem fn64 : C0.fns.get 64 = some Tryz.f64 := by kernel_rfl
theorem ok64 : codeOk C0 Tryz.f64.ntmps (Tryz.f64.body.getD .skip) = true := by kernel_rfl
theorem fn65 : C0.fns.get 65 = some Tryz.f65 := by kernel_rfl
theorem ok65 : codeOk C0 Tryz.f65.ntmps (Tryz.f65.body.getD .skip) = true := by kernel_rfl
theorem fn66 : C0.fns.get 66 = some Tryz.f66 := by kernel_rfl
theorem ok66 : codeOk C0 Tryz.f66.ntmps (Tryz.f66.body.getD .skip) = true := by kernel_rfl
theorem fn67 : C0.fns.get 67 = some Tryz.f67 := by kernel_rfl
theorem ok67 : codeOk C0 Tryz.f67.ntmps (Tryz.f67.body.getD .skip) = true := by kernel_rfl
@[simp] theorem fa50_2 : fieldAt C0 50 2 = some 2 := by kernel_rfl
theorem fn69 : C0.fns.get 69 = some Tryz.f69 := by kernel_rfl
theorem ok69 : codeOk C0 Tryz.f69.ntmps (Tryz.f69.body.getD .skip) = true := by kernel_rfl
theorem fn94 : C0.fns.get 94 = some Tryz.f94 := by kernel_rfl
theorem ok94 : codeOk C0 Tryz.f94.ntmps (Tryz.f94.body.getD .skip) = true := by kernel_rfl
section
variable {S : AS}
theorem kind63 (v : Val) (c : Con) (b : Nat) (hb : S.h.get b = some (.row (encC c) 0 0 false 54)) (hl : b < S.next) : CallW C0 63 [.agg (encV v), .ptr b 0 0 7] S fun r T => r = .bool (decide (c.val.kind ≤ v.kind)) ∧ Sub S T := by
 refine enterW (pu0 _) (pr0 _ rfl) fn63 rfl ok63 (by simp) fun F hn hs => ?_
 have s0 := hs 0
 have s1 := hs 1
 clear hs
 simp only [List.getElem?_cons_zero, List.getElem?_cons_succ, Option.getD_some, encV, encC] at s0 s1 hb
 simp [s0, s1, hb, ne_lt hl, sub1]
theorem past64 (v : Val) (c : Con) (b : Nat) (hb : S.h.get b = some (.row (encC c) 0 0 false 54)) (hl : b < S.next) : CallW C0 64 [.agg (encV v), .ptr b 0 0 7] S fun r T => r = .bool (decide (c.val.kind < v.kind)) ∧ Sub S T := by
 refine enterW (pu0 _) (pr0 _ rfl) fn64 rfl ok64 (by simp) fun F hn hs => ?_
 have s0 := hs 0
 have s1 := hs 1
 clear hs
 simp only [List.getElem?_cons_zero, List.getElem?_cons_succ, Option.getD_some, encV, encC] at s0 s1 hb
 simp [s0, s1, hb, ne_lt hl, sub1]
theorem from65 (v : Val) (c : Con) (b : Nat) (hb : S.h.get b = some (.row (encC c) 0 0 false 54)) (hl : b < S.next) : CallW C0 65 [.agg (encV v), .ptr b 0 0 7] S fun r T => r = .bool (decide (0 ≤ cmpV v c.val)) ∧ Sub S T := by
 obtain ⟨r, T, ⟨rfl, hT⟩, e⟩ := (compare v c.val ⟨S.h.set S.next (.row (encV v) 0 0 false 50), S.next + 1⟩).ex
 refine enterW (pu0 _) (pr0 _ rfl) fn65 rfl ok65 (by simp) fun F hn hs => ?_
 have s0 := hs 0
 have s1 := hs 1
 clear hs
 simp only [List.getElem?_cons_zero, List.getElem?_cons_succ, Option.getD_some, encV, encC] at s0 s1 hb e hT
 simp [s0, s1, hb, ne_lt hl, e, ex0]
 exact sub1.trans hT
theorem above66 (v : Val) (c : Con) (b : Nat) (hb : S.h.get b = some (.row (encC c) 0 0 false 54)) (hl : b < S.next) : CallW C0 66 [.agg (encV v), .ptr b 0 0 7] S fun r T => r = .bool (decide (0 < cmpV v c.val)) ∧ Sub S T := by
 obtain ⟨r, T, ⟨rfl, hT⟩, e⟩ := (compare v c.val ⟨S.h.set S.next (.row (encV v) 0 0 false 50), S.next + 1⟩).ex
 refine enterW (pu0 _) (pr0 _ rfl) fn66 rfl ok66 (by simp) fun F hn hs => ?_
 have s0 := hs 0
 have s1 := hs 1
 clear hs
 simp only [List.getElem?_cons_zero, List.getElem?_cons_succ, Option.getD_some, encV, encC] at s0 s1 hb e hT
 simp [s0, s1, hb, ne_lt hl, e, ex0]
 exact sub1.trans hT
def outB (c : Con) (v : Val) : Bool := decide (c.val.kind < v.kind) || (decide (0 ≤ cmpV v c.val) && !prefB v.str c.val.str)
theorem out67 (v : Val) (c : Con) (b p q : Nat) (hb : S.h.get b = some (.row (encC c) 0 0 false 54)) (hp : S.h.get p = some (.row [.func (.func 64) [] [.ptr b 0 0 7]] 0 0 false 86)) (hq : S.h.get q = some (.row [.func (.func 65) [] [.ptr b 0 0 7]] 0 0 false 86)) (hl : b < S.next) (hlp : p < S.next) (hlq : q < S.next) :
  CallW C0 67 [.agg (encV v), .ptr p 0 0 1, .ptr q 0 0 1, .ptr b 0 0 7] S fun r T => r = .bool (outB c v) ∧ Sub S T := by
 have h1 : Sub S ⟨S.h.set S.next (.row (encV v) 0 0 false 50), S.next + 1⟩ := sub1
 obtain ⟨r, T, ⟨rfl, hT⟩, e⟩ := (past64 (S := ⟨S.h.set S.next (.row (encV v) 0 0 false 50), S.next + 1⟩) v c b (by rw [h1.h _ hl]; exact hb) (by show b < S.next + 1; omega)).ex
 have hT1 := h1.trans hT
 have hTn := hT1.next
 obtain ⟨r, U, ⟨rfl, hU⟩, e2⟩ := (from65 (S := T) v c b (by rw [hT1.h _ hl]; exact hb) (by omega)).ex
 have hU1 := hT1.trans hU
 have g0 : T.h.get S.next = some (.row (encV v) 0 0 false 50) := by rw [hT.h _ (Nat.lt_succ_self _)]; exact gsS _ _ _
 have g1 : U.h.get S.next = some (.row (encV v) 0 0 false 50) := by rw [hU.h _ (show S.next < T.next by have := hT.next; exact this)]; exact g0
 have bU : U.h.get b = some (.row (encC c) 0 0 false 54) := by rw [hU1.h _ hl]; exact hb
 have qT : T.h.get q = some (.row [.func (.func 65) [] [.ptr b 0 0 7]] 0 0 false 86) := by rw [hT1.h _ hlq]; exact hq
 refine enterW (pu0 _) (pr0 _ rfl) fn67 rfl ok67 (by simp) fun F hn hs => ?_
 have s0 := hs 0
 have s1 := hs 1
 have s2 := hs 2
 have s3 := hs 3
 clear hs
 simp only [List.getElem?_cons_zero, List.getElem?_cons_succ, Option.getD_some, encV, encC] at s0 s1 s2 s3 hb e hT e2 g0 g1 bU
 unfold outB
 by_cases k1 : c.val.kind < v.kind
 ·simp [s0, s1, s2, s3, hp, ne_lt hlp, e, ex0, k1, hT1]
 by_cases k2 : 0 ≤ cmpV v c.val
 ·simp [s0, s1, s2, s3, hp, ne_lt hlp, e, e2, ex0, k1, k2, g0, g1, qT, bU, pre170, hU1]
 ·simp [s0, s1, s2, s3, hp, ne_lt hlp, e, e2, ex0, k1, k2, g0, g1, qT, bU, hU1]
def firI (is : Val → Bool) (x : Ent) : Int := if is x.v = true then 1 else -1
theorem fir94 (x : Ent) (f : FuncId) (caps : List AV) (is : Val → Bool) (b : Nat) (hf : (f == 132) = false) (hb : S.h.get b = some (.row [.func (.func f) [] caps] 0 0 false 86)) (hl : b < S.next)
  (hc : ∀ T, Sub S T → CallW C0 f (.agg (encV x.v) :: caps) T fun r T' => r = .bool (is x.v) ∧ Sub T T') :
  CallW C0 94 [.agg (encE x), .bool true, .ptr b 0 0 1] S fun r T => r = .int .i64 (firI is x) ∧ Sub S T := by
 have h1 : Sub S ⟨S.h.set S.next (.row (encE x) 0 0 false 80), S.next + 1⟩ := sub1
 obtain ⟨r, T, ⟨rfl, hT⟩, e⟩ := (hc _ h1).ex
 refine enterW (pu0 _) (pr0 _ rfl) fn94 rfl ok94 (by simp) fun F hn hs => ?_
 have s0 := hs 0
 have s1 := hs 1
 have s2 := hs 2
 clear hs
 simp only [List.getElem?_cons_zero, List.getElem?_cons_succ, Option.getD_some, encE, encV, List.cons_append, List.nil_append] at s0 s1 s2 e hT h1
 unfold firI
 cases hi : is x.v with
 | true =>
  rw [hi] at e
  simp [s0, s1, s2, hb, ne_lt hl, e, ex0 f hf, h1.trans hT]
 | false =>
  rw [hi] at e
  simp [s0, s1, s2, hb, ne_lt hl, e, ex0 f hf, h1.trans hT]
theorem first69 {u : AV} {L : List Ent} {f : FuncId} {caps : List AV} {is : Val → Bool} {k : Nat} (h : Sl S u 5 (L.flatMap encE)) (hb : L.length ≤ 4611686018427387904) (hf : (f == 132) = false) (hk : Cut (firI is) L k)
  (hcap : cellsOf (.func (.func f) [] caps) = some [.func (.func f) [] caps])
  (hc : ∀ T, Sub S T → ∀ x : Val, CallW C0 f (.agg (encV x) :: caps) T fun v T' => v = .bool (is x) ∧ Sub T T') :
  CallW C0 69 [u, .func (.func f) [] caps] S fun v T => v = .int .i64 k ∧ Sub S T := by
 have h1 : Sub S ⟨S.h.set S.next (.row [.func (.func f) [] caps] 0 0 false 86), S.next + 1⟩ := sub1
 obtain ⟨r, T, ⟨rfl, hT⟩, e⟩ := (search93 (h.toSub h1) hb (f := 94) (caps := [.ptr S.next 0 0 1]) rfl hk (fun T hT x hx => fir94 x f caps is S.next hf (by rw [hT.h _ (Nat.lt_succ_self _)]; exact gsS _ _ _) (by have := hT.next; exact this) (fun U hU => hc U ((h1.trans hT).trans hU) x.v))).ex
 refine enterW (pu0 _) (pr0 _ rfl) fn69 rfl ok69 (by simp) fun F hn hs => ?_
 have s0 := hs 0
 have s1 := hs 1
 clear hs
 simp only [List.getElem?_cons_zero, List.getElem?_cons_succ, Option.getD_some] at s0 s1
 simp [s0, s1, hcap, e, ex0, h1.trans hT]
end
structure Ord3 {α : Type} (c : α → α → Int) : Prop where
 range : ∀ a b, c a b = -1 ∨ c a b = 0 ∨ c a b = 1
 anti : ∀ a b, c a b = - c b a
 trans : ∀ a b d, c a b ≤ 0 → c b d ≤ 0 → c a d = if c b d < c a b then c b d else c a b
theorem Ord3.self {α : Type} {c : α → α → Int} (h : Ord3 c) (a : α) : c a a = 0 := by have := h.anti a a; omega
theorem Ord3.le {α : Type} {c : α → α → Int} (h : Ord3 c) {a b d : α} (h1 : c a b ≤ 0) (h2 : c b d ≤ 0) : c a d ≤ 0 := by have := h.trans a b d h1 h2; split at this <;> omega
theorem Ord3.lt {α : Type} {c : α → α → Int} (h : Ord3 c) {a b d : α} (h1 : c a b < 0) (h2 : c b d ≤ 0) : c a d < 0 := by have := h.trans a b d (by omega) h2; split at this <;> omega
theorem Ord3.lt' {α : Type} {c : α → α → Int} (h : Ord3 c) {a b d : α} (h1 : c a b ≤ 0) (h2 : c b d < 0) : c a d < 0 := by have := h.trans a b d h1 (by omega); split at this <;> omega
theorem Ord3.comap {α β : Type} {c : α → α → Int} (h : Ord3 c) (f : β → α) : Ord3 fun a b => c (f a) (f b) := ⟨fun _ _ => h.range _ _, fun _ _ => h.anti _ _, fun _ _ _ => h.trans _ _ _⟩
theorem Ord3.lex {α : Type} {c d : α → α → Int} (h : Ord3 c) (k : Ord3 d) : Ord3 fun a b => if c a b = 0 then d a b else c a b := by
 refine ⟨fun a b => ?_, fun a b => ?_, fun a b e => ?_⟩
 ·split
  ·exact k.range _ _
  ·exact h.range _ _
 ·have h1 := h.anti a b
  have h2 := k.anti a b
  split <;> split <;> omega
 ·have a1 := h.range a b
  have a2 := h.range b e
  have b1 := k.range a b
  have b2 := k.range b e
  have t1 := h.trans a b e
  have t2 := k.trans a b e
  intro q1 q2
  by_cases z1 : c a b = 0
  ·rw [if_pos z1] at q1 ⊢
   by_cases z2 : c b e = 0
   ·rw [if_pos z2] at q2 ⊢
    have := t1 (by omega) (by omega)
    rw [z1, z2] at this
    simp at this
    rw [if_pos this]
    exact t2 q1 q2
   ·rw [if_neg z2] at q2 ⊢
    have := t1 (by omega) (by omega)
    rw [if_pos (by omega)] at this
    rw [if_neg (by omega), this]
    split <;> omega
  ·rw [if_neg z1] at q1 ⊢
   by_cases z2 : c b e = 0
   ·rw [if_pos z2] at q2 ⊢
    have := t1 (by omega) (by omega)
    rw [if_neg (by omega)] at this
    rw [if_neg (by omega), this]
    split <;> omega
   ·rw [if_neg z2] at q2 ⊢
    have := t1 (by omega) (by omega)
    rw [if_neg (by omega)] at this
    rw [if_neg (by omega), this]
    split <;> omega
theorem ltS_trans : ∀ a b c : List Nat, ltS a b = true → ltS b c = true → ltS a c = true
 | [], [], _, h, _ => by cases h
 | [], _ :: _, [], _, h => by cases h
 | [], _ :: _, _ :: _, _, _ => rfl
 | _ :: _, [], _, h, _ => by cases h
 | _ :: _, _ :: _, [], _, h => by cases h
 | x :: a, y :: b, z :: c, h1, h2 => by
  have e : ∀ (x y : Nat) (a b : List Nat), ltS (x :: a) (y :: b) = cond (Nat.blt x y) true (cond (Nat.beq x y) (ltS a b) false) := fun _ _ _ _ => rfl
  rw [e, nblt, nbeq] at h1 h2 ⊢
  have ih := ltS_trans a b c
  by_cases h3 : x < y
  ·by_cases h4 : y < z
   ·have : x < z := by omega
    simp [this]
   ·by_cases h5 : y = z
    ·subst h5; simp [h3]
    ·simp [h4, h5] at h2
  ·by_cases h6 : x = y
   ·subst h6
    simp [h3] at h1
    by_cases h4 : x < z
    ·simp [h4]
    ·by_cases h5 : x = z
     ·subst h5
      simp [h4] at h2
      simp [ih h1 h2]
     ·simp [h4, h5] at h2
   ·simp [h3, h6] at h1
theorem ltS_irr (a : List Nat) : ltS a a = false := by
 have h := ltS_total a a
 rw [eqS_self] at h
 cases hl : ltS a a
 ·rfl
 ·rw [hl] at h; cases h
theorem lt_tri (a b : List Nat) : (ltS a b = true ∧ a ≠ b ∧ ltS b a = false) ∨ (ltS a b = false ∧ a = b ∧ ltS b a = false) ∨ (ltS a b = false ∧ a ≠ b ∧ ltS b a = true) := by
 have h := ltS_total a b
 rw [eqS_eq] at h
 by_cases e : a = b
 ·subst e
  exact .inr (.inl ⟨ltS_irr a, rfl, ltS_irr a⟩)
 ·rw [decide_eq_false e, Bool.or_false] at h
  cases h1 : ltS a b
  ·rw [h1] at h
   refine .inr (.inr ⟨rfl, e, ?_⟩)
   cases h2 : ltS b a
   ·rw [h2] at h; cases h
   ·rfl
  ·rw [h1] at h
   refine .inl ⟨rfl, e, ?_⟩
   cases h2 : ltS b a
   ·rfl
   ·rw [h2] at h; cases h
theorem cmpI_ord : Ord3 cmpI := by
 refine ⟨fun a b => ?_, fun a b => ?_, fun a b c h1 h2 => ?_⟩
 ·unfold cmpI; split <;> (try split) <;> simp
 ·unfold cmpI
  by_cases h1 : a < b
  ·have : ¬ b < a := by omega
   simp [h1, this]
  ·by_cases h2 : b < a <;> simp [h1, h2]
 ·unfold cmpI at *
  repeat' split at h1
  all_goals repeat' split at h2
  all_goals repeat' split
  all_goals omega
theorem cmpI_zero (a b : Int) : cmpI a b = 0 ↔ a = b := by
 unfold cmpI
 by_cases h1 : a < b
 ·have : a ≠ b := by omega
  simp [h1, this]
 ·by_cases h2 : b < a
  ·have : a ≠ b := by omega
   simp [h1, h2, this]
  ·have : a = b := by omega
   simp [this]
theorem cmpS_neg (a b : List Nat) : cmpS a b = -1 ↔ ltS a b = true := by
 unfold cmpS
 cases ltS a b <;> cases eqS a b <;> simp
theorem cmpS_zero (a b : List Nat) : cmpS a b = 0 ↔ a = b := by
 unfold cmpS
 rw [eqS_eq]
 rcases lt_tri a b with ⟨h1, h2, h3⟩ | ⟨h1, h2, h3⟩ | ⟨h1, h2, h3⟩
 ·simp [h1, h2]
 ·subst h2; simp [h1]
 ·simp [h1, h2]
theorem cmpS_ord : Ord3 cmpS := by
 have rg : ∀ a b, cmpS a b = -1 ∨ cmpS a b = 0 ∨ cmpS a b = 1 := fun a b => by unfold cmpS; cases ltS a b <;> cases eqS a b <;> simp
 refine ⟨rg, fun a b => ?_, fun a b c h1 h2 => ?_⟩
 ·unfold cmpS
  rw [eqS_eq, eqS_eq]
  rcases lt_tri a b with ⟨h1, h2, h3⟩ | ⟨h1, h2, h3⟩ | ⟨h1, h2, h3⟩
  ·have h4 : ¬ b = a := fun e => h2 e.symm
   simp [h1, h3, h4]
  ·subst h2; simp [h1]
  ·simp [h1, h3, h2]
 ·rcases rg a b with e1 | e1 | e1
  ·rcases rg b c with e2 | e2 | e2
   ·rw [e1, e2, (cmpS_neg a c).2 (ltS_trans a b c ((cmpS_neg a b).1 e1) ((cmpS_neg b c).1 e2))]; rfl
   ·rw [← (cmpS_zero b c).1 e2, e1, (cmpS_zero b b).2 rfl]; rfl
   ·omega
  ·have := (cmpS_zero a b).1 e1
   subst this
   rw [e1]
   rcases rg a c with e2 | e2 | e2 <;> rw [e2] at h2 ⊢ <;> first | rfl | omega
  ·omega
def cmpK (k : Int) (a b : Val) : Int := if k = 1 then cmpI a.num b.num else if k = 2 then cmpS a.str b.str else if k = 3 then cmpI (rankI a.bool) (rankI b.bool) else 0
theorem cmpK_ord (k : Int) : Ord3 (cmpK k) := by
 by_cases h1 : k = 1
 ·have e : cmpK k = fun a b => cmpI a.num b.num := by funext a b; simp [cmpK, h1]
  rw [e]; exact cmpI_ord.comap Val.num
 by_cases h2 : k = 2
 ·have e : cmpK k = fun a b => cmpS a.str b.str := by funext a b; simp [cmpK, h2]
  rw [e]; exact cmpS_ord.comap Val.str
 by_cases h3 : k = 3
 ·have e : cmpK k = fun a b => cmpI (rankI a.bool) (rankI b.bool) := by funext a b; simp [cmpK, h3]
  rw [e]; exact cmpI_ord.comap fun v : Val => rankI v.bool
 ·have e : cmpK k = fun a b => 0 := by funext a b; simp [cmpK, h1, h2, h3]
  rw [e]
  exact ⟨fun _ _ => .inr (.inl rfl), fun _ _ => rfl, fun _ _ _ _ _ => rfl⟩
theorem zbL {a b : Val} (h : a.kind = b.kind) : cmpV a b = cmpK a.kind a b := by
 unfold cmpV cmpK
 simp [h]
theorem cmpV_kinds {a b : Val} (h : a.kind ≠ b.kind) : cmpV a b = cmpI a.kind b.kind := by
 unfold cmpV
 rw [if_pos h]
theorem cmpV_lt {a b : Val} (h : a.kind < b.kind) : cmpV a b = -1 := by
 rw [cmpV_kinds (by omega)]; unfold cmpI; rw [if_pos h]
theorem cmpV_gt {a b : Val} (h : b.kind < a.kind) : cmpV a b = 1 := by
 rw [cmpV_kinds (by omega)]; unfold cmpI; rw [if_neg (by omega), if_pos h]
theorem cmpV_ord : Ord3 cmpV := by
 refine ⟨fun a b => ?_, fun a b => ?_, fun a b d h1 h2 => ?_⟩
 ·by_cases h : a.kind = b.kind
  ·rw [zbL h]; exact (cmpK_ord _).range _ _
  ·rw [cmpV_kinds h]; exact cmpI_ord.range _ _
 ·by_cases h : a.kind = b.kind
  ·rw [zbL h, zbL h.symm, h]; exact (cmpK_ord _).anti _ _
  ·rw [cmpV_kinds h, cmpV_kinds (fun e => h e.symm)]; exact cmpI_ord.anti _ _
 ·have hab : a.kind ≤ b.kind := by
   rcases (show b.kind < a.kind ∨ a.kind ≤ b.kind by omega) with h | h
   ·rw [cmpV_gt h] at h1; omega
   ·exact h
  have hbd : b.kind ≤ d.kind := by
   rcases (show d.kind < b.kind ∨ b.kind ≤ d.kind by omega) with h | h
   ·rw [cmpV_gt h] at h2; omega
   ·exact h
  by_cases e1 : a.kind = b.kind
  ·by_cases e2 : b.kind = d.kind
   ·rw [zbL e1] at h1 ⊢
    rw [zbL e2, ← e1] at h2 ⊢
    rw [zbL (e1.trans e2)]
    exact (cmpK_ord _).trans _ _ _ h1 h2
   ·rw [cmpV_lt (a := b) (b := d) (by omega), cmpV_lt (a := a) (b := d) (by omega)]
    have := (cmpK_ord a.kind).range a b
    rw [zbL e1]
    split <;> omega
  ·rw [cmpV_lt (a := a) (b := b) (by omega), cmpV_lt (a := a) (b := d) (by omega)]
   split
   ·rename_i hh
    have hr : cmpV b d = -1 ∨ cmpV b d = 0 ∨ cmpV b d = 1 := by
     by_cases h : b.kind = d.kind
     ·rw [zbL h]; exact (cmpK_ord _).range _ _
     ·rw [cmpV_kinds h]; exact cmpI_ord.range _ _
    omega
   ·rfl
theorem ordE_ord : Ord3 ordE := (cmpV_ord.comap Ent.v).lex (cmpI_ord.comap fun e : Ent => (e.n : Int))
theorem ordE_v {a b : Ent} (h : ordE a b ≤ 0) : cmpV a.v b.v ≤ 0 := by
 unfold ordE at h
 split at h <;> omega
theorem prefB_nil (a : List Nat) : prefB a [] = true := by
 unfold prefB
 simp [eqS_eq]
theorem prefB_cons (x y : Nat) (a b : List Nat) : prefB (x :: a) (y :: b) = (decide (x = y) && prefB a b) := by
 unfold prefB
 simp only [eqS_eq, List.length_cons, List.take_succ_cons, List.cons.injEq]
 by_cases h : x = y <;> by_cases h2 : b.length ≤ a.length <;> simp [h, h2]
theorem prefB_no (y : Nat) (b : List Nat) : prefB [] (y :: b) = false := by
 unfold prefB
 simp
theorem ltS_cons (x y : Nat) (a b : List Nat) : ltS (x :: a) (y :: b) = cond (decide (x < y)) true (cond (decide (x = y)) (ltS a b) false) := by
 have e : ltS (x :: a) (y :: b) = cond (Nat.blt x y) true (cond (Nat.beq x y) (ltS a b) false) := rfl
 rw [e, nblt, nbeq]
theorem pref_ge : ∀ (w p : List Nat), prefB w p = true → ltS w p = false
 | w, [], _ => by cases w <;> rfl
 | [], y :: b, h => by rw [prefB_no] at h; cases h
 | x :: a, y :: b, h => by
  rw [prefB_cons] at h
  simp at h
  obtain ⟨rfl, h⟩ := h
  rw [ltS_cons]
  simp [pref_ge a b h]
theorem pref_mid : ∀ (v w p : List Nat), prefB w p = true → ltS v p = false → ltS w v = false → prefB v p = true
 | v, w, [], _, _, _ => prefB_nil v
 | [], w, y :: b, _, h, _ => by
  have : ltS [] (y :: b) = true := rfl
  rw [this] at h; cases h
 | x :: a, [], y :: b, h, _, _ => by rw [prefB_no] at h; cases h
 | x :: a, z :: w, y :: b, h1, h2, h3 => by
  rw [prefB_cons] at h1 ⊢
  simp at h1
  obtain ⟨rfl, h1⟩ := h1
  rw [ltS_cons] at h2 h3
  by_cases e : x = z
  ·subst e
   simp at h2 h3 ⊢
   exact pref_mid a w b h1 h2 h3
  ·by_cases e2 : x < z
   ·simp [e2] at h2
   ·have e3 : z < x := by omega
    simp [e3] at h3
def cutN {α : Type} (is : α → Bool) (L : List α) : Nat := (L.takeWhile fun x => !is x).length
theorem zbG {α : Type} (is : α → Bool) : ∀ L : List α, cutN is L ≤ L.length
 | [] => by simp [cutN]
 | x :: L => by
  have := zbG is L
  unfold cutN at this ⊢
  cases h : is x <;> simp [h] <;> omega
theorem cutN_lt {α : Type} (is : α → Bool) : ∀ (L : List α), L.Pairwise (fun x y => is x = true → is y = true) → ∀ i x, L[i]? = some x → (is x = false ↔ i < cutN is L)
 | [], _, i, x, h => by simp at h
 | z :: L, hp, i, x, h => by
  obtain ⟨h1, h2⟩ := List.pairwise_cons.1 hp
  have ih := cutN_lt is L h2
  unfold cutN at ih ⊢
  cases hz : is z with
  | true =>
   simp [hz]
   cases i with
   | zero => simp at h; subst h; exact hz
   | succ i => exact h1 x (List.mem_of_getElem? (by simpa using h)) hz
  | false =>
   simp [hz]
   cases i with
   | zero => simp at h; subst h; simp [hz]
   | succ i =>
    have := ih i x (by simpa using h)
    rw [this]; omega
theorem cutN_mono {α : Type} {is is' : α → Bool} (h : ∀ x, is' x = true → is x = true) : ∀ L : List α, cutN is L ≤ cutN is' L
 | [] => Nat.le_refl _
 | x :: L => by
  have ih := cutN_mono h L
  have hx := h x
  unfold cutN at ih ⊢
  cases h1 : is x <;> cases h2 : is' x <;> simp [h1, h2] at hx ⊢
  omega
theorem Cut.of {α : Type} {g : α → Int} {L : List α} (h : L.Pairwise fun x y => 0 ≤ g x → 0 ≤ g y) : Cut g L (cutN (fun x => decide (0 ≤ g x)) L) := by
 refine ⟨zbG _ _, fun i x hx => ?_⟩
 have := cutN_lt (fun x => decide (0 ≤ g x)) L (h.imp fun h => by simpa using h) i x hx
 simp at this
 exact this
theorem firI_cut {is : Val → Bool} {L : List Ent} (h : L.Pairwise fun x y => is x.v = true → is y.v = true) : Cut (firI is) L (cutN (fun x => is x.v) L) := by
 refine ⟨zbG _ _, fun i x hx => ?_⟩
 have := cutN_lt (fun x : Ent => is x.v) L h i x hx
 rw [← this]
 unfold firI
 cases is x.v <;> simp
def Rises (L : List Ent) : Prop := L.Pairwise fun a b => ordE a b < 0
theorem Rises.cut {L : List Ent} (h : Rises L) (one : Ent) : Cut (fun x => ordE x one) L (cutN (fun x => decide (0 ≤ ordE x one)) L) := by
 refine Cut.of (h.imp fun {a b} hab h0 => ?_)
 rcases (show ordE b one < 0 ∨ 0 ≤ ordE b one by omega) with hh | hh
 ·have := ordE_ord.lt hab (Int.le_of_lt hh); omega
 ·exact hh
theorem nt35 : Tryz.f35.ntmps = 51 := by kernel_rfl
def kindB (c : Con) (v : Val) : Bool := decide (c.val.kind ≤ v.kind)
def pastB (c : Con) (v : Val) : Bool := decide (c.val.kind < v.kind)
def fromB (c : Con) (v : Val) : Bool := decide (0 ≤ cmpV v c.val)
def aboveB (c : Con) (v : Val) : Bool := decide (0 < cmpV v c.val)
theorem kind_le {a b : Val} (h : cmpV a b ≤ 0) : a.kind ≤ b.kind := by
 rcases (show b.kind < a.kind ∨ a.kind ≤ b.kind by omega) with k | k
 ·rw [cmpV_gt k] at h; omega
 ·exact k
theorem kind_mono (c : Con) : ∀ a b, cmpV a b ≤ 0 → kindB c a = true → kindB c b = true := fun a b h k => by
 have := kind_le h
 simp only [kindB, decide_eq_true_eq] at *; omega
theorem past_mono (c : Con) : ∀ a b, cmpV a b ≤ 0 → pastB c a = true → pastB c b = true := fun a b h k => by
 have := kind_le h
 simp only [pastB, decide_eq_true_eq] at *; omega
theorem zbZ (c : Con) : ∀ a b, cmpV a b ≤ 0 → fromB c a = true → fromB c b = true := fun a b h k => by
 simp only [fromB, decide_eq_true_eq] at *
 rcases (show cmpV b c.val < 0 ∨ 0 ≤ cmpV b c.val by omega) with q | q
 ·have := cmpV_ord.lt' h q; omega
 ·exact q
theorem above_mono (c : Con) : ∀ a b, cmpV a b ≤ 0 → aboveB c a = true → aboveB c b = true := fun a b h k => by
 simp only [aboveB, decide_eq_true_eq] at *
 rcases (show cmpV b c.val ≤ 0 ∨ 0 < cmpV b c.val by omega) with q | q
 ·have := cmpV_ord.le h q; omega
 ·exact q
theorem from_kind (c : Con) : ∀ v, fromB c v = true → kindB c v = true := fun v h => by
 simp only [fromB, kindB, decide_eq_true_eq] at *
 exact kind_le (by have := cmpV_ord.anti v c.val; omega)
theorem above_from (c : Con) : ∀ v, aboveB c v = true → fromB c v = true := fun v h => by simp only [fromB, aboveB, decide_eq_true_eq] at *; omega
theorem above_kind (c : Con) : ∀ v, aboveB c v = true → kindB c v = true := fun v h => from_kind c v (above_from c v h)
theorem past_kind (c : Con) : ∀ v, pastB c v = true → kindB c v = true := fun v h => by simp only [pastB, kindB, decide_eq_true_eq] at *; omega
theorem past_above (c : Con) : ∀ v, pastB c v = true → aboveB c v = true := fun v h => by
 simp only [pastB, aboveB, decide_eq_true_eq] at *
 rw [cmpV_gt h]; omega
theorem past_from (c : Con) : ∀ v, pastB c v = true → fromB c v = true := fun v h => above_from c v (past_above c v h)
theorem out_from (c : Con) : ∀ v, outB c v = true → fromB c v = true := fun v h => by
 unfold outB at h
 rw [Bool.or_eq_true] at h
 rcases h with h | h
 ·exact past_from c v h
 ·rw [Bool.and_eq_true] at h; exact h.1
theorem out_mono {c : Con} (hk : c.val.kind = 2) : ∀ a b, cmpV a b ≤ 0 → outB c a = true → outB c b = true := fun a b h k => by
 have hf := zbZ c a b h (out_from c a k)
 have hkb := from_kind c b hf
 have hka := from_kind c a (out_from c a k)
 have hab := kind_le h
 unfold outB at k ⊢
 simp only [kindB, decide_eq_true_eq, hk] at hka hkb
 by_cases h2 : 2 < b.kind
 ·simp [hk, h2]
 ·have hb2 : b.kind = 2 := by omega
  have ha2 : a.kind = 2 := by omega
  simp only [fromB, decide_eq_true_eq] at hf
  simp [hk, hb2, ha2] at k ⊢
  refine ⟨hf, ?_⟩
  cases hp : prefB b.str c.val.str with
  | false => rfl
  | true =>
   have e1 : cmpV a c.val = cmpS a.str c.val.str := by rw [zbL (by rw [ha2, hk]), ha2]; simp [cmpK]
   have e2 : cmpV a b = cmpS a.str b.str := by rw [zbL (by rw [ha2, hb2]), ha2]; simp [cmpK]
   have l1 : ltS a.str c.val.str = false := by
    cases hl : ltS a.str c.val.str with
    | false => rfl
    | true => have := (cmpS_neg _ _).2 hl; omega
   have l2 : ltS b.str a.str = false := by
    cases hl : ltS b.str a.str with
    | false => rfl
    | true =>
     have := (cmpS_neg _ _).2 hl
     have := cmpS_ord.anti a.str b.str
     omega
   rw [pref_mid _ _ _ hp l1 l2] at k
   exact absurd k.2 (by simp)
theorem mayC_str {c : Con} (hm : mayC c = true) (o8 : c.op = 8) : c.val.kind = 2 := by
 unfold mayC at hm
 split at hm
 ·cases hm
 split at hm
 ·cases hm
 simp [o8] at hm
 exact hm.2.1
section
variable {c : Con}
theorem out_2 (o : c.op = 2) : ∀ v, holdsB c v = true → fromB c v = true ∧ aboveB c v = false := fun v h => by
 unfold holdsB at h
 simp [o] at h
 simp [fromB, aboveB, h.2]
theorem out_3 (o : c.op = 3) : ∀ v, holdsB c v = true → kindB c v = true ∧ pastB c v = false := fun v h => by
 unfold holdsB at h
 simp [o] at h
 simp [kindB, pastB, h.1]
theorem out_4 (o : c.op = 4) : ∀ v, holdsB c v = true → kindB c v = true ∧ fromB c v = false := fun v h => by
 unfold holdsB at h
 simp [o] at h
 simp [kindB, fromB, h.1]
 omega
theorem out_5 (o : c.op = 5) : ∀ v, holdsB c v = true → kindB c v = true ∧ aboveB c v = false := fun v h => by
 unfold holdsB at h
 simp [o] at h
 simp [kindB, aboveB, h.1]
 omega
theorem out_6 (o : c.op = 6) : ∀ v, holdsB c v = true → aboveB c v = true ∧ pastB c v = false := fun v h => by
 unfold holdsB at h
 simp [o] at h
 simp [pastB, aboveB, h.1, h.2]
theorem out_7 (o : c.op = 7) : ∀ v, holdsB c v = true → fromB c v = true ∧ pastB c v = false := fun v h => by
 unfold holdsB at h
 simp [o] at h
 simp [pastB, fromB, h.1, h.2]
theorem out_8 (o : c.op = 8) (hk : c.val.kind = 2) : ∀ v, holdsB c v = true → fromB c v = true ∧ outB c v = false := fun v h => by
 unfold holdsB at h
 simp [o, hk] at h
 have e1 : cmpV v c.val = cmpS v.str c.val.str := by rw [zbL (by rw [h.1, hk]), h.1]; simp [cmpK]
 have l1 := pref_ge _ _ h.2
 refine ⟨?_, ?_⟩
 ·simp only [fromB, decide_eq_true_eq]
  rcases cmpS_ord.range v.str c.val.str with q | q | q
  ·rw [(cmpS_neg _ _).1 q] at l1; cases l1
  ·omega
  ·omega
 ·simp [outB, hk, h.1, h.2]
end
theorem pw_of {L : List Ent} {is : Val → Bool} (hr : Rises L) (hm : ∀ a b, cmpV a b ≤ 0 → is a = true → is b = true) : L.Pairwise fun x y => is x.v = true → is y.v = true := hr.imp fun h => hm _ _ (ordE_v (by omega))
def Held (T : AS) (L : List Ent) (c : Con) (r : AV) : Prop :=
 ∃ lo hi, lo ≤ hi ∧ hi ≤ L.length ∧ Sl T r 5 (((L.drop lo).take (hi - lo)).flatMap encE) ∧ ∀ i x, L[i]? = some x → (i < lo ∨ hi ≤ i) → holdsB c x.v = false
section
variable {S : AS}
def memC (S : AS) (c : Con) : AS := ⟨((((S.h.set S.next (.row (encC c) 0 0 false 54)).set (S.next + 1) (.row [.nilf] 0 0 false 86)).set (S.next + 1) (.row [.func (.func 64) [] [.ptr S.next 0 0 7]] 0 0 false 86)).set (S.next + 2) (.row [.nilf] 0 0 false 86)).set (S.next + 2) (.row [.func (.func 65) [] [.ptr S.next 0 0 7]] 0 0 false 86), S.next + 1 + 2⟩
theorem sub_memC (S : AS) (c : Con) : Sub S (memC S c) :=
 ((((sub1 (S := S)).set _ _ (Nat.le_succ _) _ (Nat.le_succ (S.next + 1))).set _ _ (Nat.le_succ _) _ (Nat.le_refl _)).set _ _ (Nat.le_add_right _ _) _ (Nat.le_succ (S.next + 2))).set _ _ (Nat.le_add_right _ _) _ (Nat.le_refl _)
theorem memC_0 {c : Con} {U : AS} (h : Sub (memC S c) U) : U.h.get S.next = some (.row (encC c) 0 0 false 54) := by
 rw [h.h _ (by show S.next < S.next + 1 + 2; omega)]
 unfold memC
 simp only [gsN _ _ (show S.next ≠ S.next + 2 by omega), gsN _ _ (show S.next ≠ S.next + 1 by omega)]
 exact gsS _ _ _
theorem memC_1 {c : Con} {U : AS} (h : Sub (memC S c) U) : U.h.get (S.next + 1) = some (.row [.func (.func 64) [] [.ptr S.next 0 0 7]] 0 0 false 86) := by
 rw [h.h _ (by show S.next + 1 < S.next + 1 + 2; omega)]
 unfold memC
 simp only [gsN _ _ (show S.next + 1 ≠ S.next + 2 by omega)]
 exact gsS _ _ _
theorem memC_2 {c : Con} {U : AS} (h : Sub (memC S c) U) : U.h.get (S.next + 2) = some (.row [.func (.func 65) [] [.ptr S.next 0 0 7]] 0 0 false 86) := by
 rw [h.h _ (by show S.next + 2 < S.next + 1 + 2; omega)]
 unfold memC
 exact gsS _ _ _
theorem zbN {c : Con} {U : AS} (h : Sub (memC S c) U) : S.next < U.next ∧ S.next + 1 < U.next ∧ S.next + 2 < U.next := by
 have : S.next + 1 + 2 ≤ U.next := h.next
 omega
theorem firsts {M : AS} {u : AV} {L : List Ent} (h : Sl S u 5 (L.flatMap encE)) (hr : Rises L) (hb : L.length ≤ 4611686018427387904) (hM : Sub S M) {fL fH : FuncId} {cL cH : List AV} (low high : Val → Bool) (hfL : (fL == 132) = false) (hfH : (fH == 132) = false)
  (kL : cellsOf (.func (.func fL) [] cL) = some [.func (.func fL) [] cL]) (kH : cellsOf (.func (.func fH) [] cH) = some [.func (.func fH) [] cH])
  (hcL : ∀ T, Sub M T → ∀ x : Val, CallW C0 fL (.agg (encV x) :: cL) T fun v T' => v = .bool (low x) ∧ Sub T T')
  (hcH : ∀ T, Sub M T → ∀ x : Val, CallW C0 fH (.agg (encV x) :: cH) T fun v T' => v = .bool (high x) ∧ Sub T T')
  (mL : ∀ a b, cmpV a b ≤ 0 → low a = true → low b = true) (mH : ∀ a b, cmpV a b ≤ 0 → high a = true → high b = true) (hi : ∀ v, high v = true → low v = true) :
  ∃ T1 T2, Sub S T2 ∧ (∀ Q, CallW C0 69 [u, .func (.func fL) [] cL] M Q = Q (.int .i64 (cutN (fun x : Ent => low x.v) L : Int)) T1) ∧
   (∀ Q, CallW C0 69 [u, .func (.func fH) [] cH] T1 Q = Q (.int .i64 (cutN (fun x : Ent => high x.v) L : Int)) T2) ∧ cutN (fun x : Ent => low x.v) L ≤ cutN (fun x : Ent => high x.v) L := by
 obtain ⟨r1, T1, ⟨rfl, h1⟩, e1⟩ := (first69 (h.toSub hM) hb hfL (firI_cut (pw_of hr mL)) kL hcL).ex
 obtain ⟨r2, T2, ⟨rfl, h2⟩, e2⟩ := (first69 (h.toSub (hM.trans h1)) hb hfH (firI_cut (pw_of hr mH)) kH (fun T hT x => hcH T (h1.trans hT) x)).ex
 exact ⟨T1, T2, (hM.trans h1).trans h2, e1, e2, cutN_mono (fun x hx => hi x.v hx) L⟩
theorem held_cut {u : AV} {L : List Ent} {T : AS} {c : Con} {low high : Val → Bool} (h : Sl S u 5 (L.flatMap encE)) (hT : Sub S T) (hle : cutN (fun x : Ent => low x.v) L ≤ cutN (fun x : Ent => high x.v) L) (hu : sLen u = L.length) (hr : Rises L)
  (mL : ∀ a b, cmpV a b ≤ 0 → low a = true → low b = true) (mH : ∀ a b, cmpV a b ≤ 0 → high a = true → high b = true) (ho : ∀ v, holdsB c v = true → low v = true ∧ high v = false) :
  Held T L c (subA u (cutN (fun x : Ent => low x.v) L) (cutN (fun x : Ent => high x.v) L)) := by
 refine ⟨_, _, hle, zbG _ _, ?_, fun i x hx hi => ?_⟩
 ·have := (h.toSub hT).cut hle (by rw [hu]; exact zbG _ _)
  rw [fm_drop zaR, fm_take zaR] at this
  exact this
 ·cases hh : holdsB c x.v with
  | false => rfl
  | true =>
   obtain ⟨h1, h2⟩ := ho _ hh
   rcases hi with hi | hi
   ·have := (cutN_lt (fun x : Ent => low x.v) L (pw_of hr mL) i x hx).2 hi
    rw [h1] at this; cases this
   ·have := (cutN_lt (fun x : Ent => high x.v) L (pw_of hr mH) i x hx).1 h2
    omega
set_option maxRecDepth 20000 in
set_option maxHeartbeats 4000000 in
theorem hold35 {u : AV} {L : List Ent} {c : Con} (h : Sl S u 5 (L.flatMap encE)) (hc : ConOk S c) (hr : Rises L) (hb : L.length ≤ 4611686018427387904) (hm : mayC c = true) :
  CallW C0 35 [u, .agg (encC c)] S fun r T => Sub S T ∧ Held T L c r := by
 have u1 := h.sl
 have u2 := h.len_flat zaR (by omega)
 have uk := okW_sl h
 have un := h.np
 refine enterW (pu0 _) (pr0 _ rfl) fn35 rfl ok35 (by simp) fun F hn hs => ?_
 rw [nt35] at hn
 have s0 := hs 0
 have s1 := hs 1
 clear hs
 simp only [List.getElem?_cons_zero, List.getElem?_cons_succ, Option.getD_some, encC] at s0 s1
 have hall : ∀ T, Sub S T → Held T L c u := fun T hT => ⟨0, L.length, Nat.zero_le _, Nat.le_refl _, by rw [List.drop_zero, Nat.sub_zero, List.take_length]; exact h.toSub hT, fun i x hx hi => by
  have := (List.getElem?_eq_some_iff.1 hx).1
  omega⟩
 by_cases o1 : c.op = 1
 ·have hT := sub_memC S c
  simp only [memC, encC, o1] at hT
  simp only [o1] at s0 s1
  simp [s0, s1, hn]
  refine draws [.p, .r 0 0, .p, .p] (n := 51) (by kernel_rfl) (by simp [hn]) ?_
  simp [s0, s1, hn, uk, un]
  exact ⟨hT, hall _ hT⟩
 by_cases o9 : c.op = 9
 ·have hT := sub_memC S c
  simp only [memC, encC, o9] at hT
  simp only [o9] at s0 s1
  simp [s0, s1, hn]
  refine draws [.p, .r 0 0, .p, .p] (n := 51) (by kernel_rfl) (by simp [hn]) ?_
  simp [s0, s1, hn, uk, un]
  exact ⟨hT, hall _ hT⟩
 by_cases o2 : c.op = 2
 ·obtain ⟨T1, T2, hT2, e1, e2, e3⟩ := firsts (S := S) (M := memC S c) h hr hb (sub_memC S c) (fL := 65) (fH := 66) (cL := [.ptr S.next 0 0 7]) (cH := [.ptr S.next 0 0 7]) (fromB c) (aboveB c) rfl rfl rfl rfl
   (fun U hU x => from65 x c S.next (memC_0 hU) (zbN hU).1)
   (fun U hU x => above66 x c S.next (memC_0 hU) (zbN hU).1)
   (zbZ c) (above_mono c) (above_from c)
  have hout : ∀ v, holdsB c v = true → fromB c v = true ∧ aboveB c v = false := out_2 o2
  have hct := h.cut e3 (by rw [u2]; exact zbG _ _)
  simp only [memC, encC, o2] at e1 e2
  simp only [o2] at s0 s1
  simp [s0, s1, hn]
  refine draws [.p, .r 0 0, .p, .p] (n := 51) (by kernel_rfl) (by simp [hn]) ?_
  have hsl := fun (F : Fr) (h1 : sl F 46 = .int .i64 (cutN (fun x => fromB c x.v) L : Int)) (h2 : sl F 49 = .int .i64 (cutN (fun x => aboveB c x.v) L : Int)) => zbA (cx := C0) (F := F) (lo := some (.tmp 46)) (hi := some (.tmp 49)) st78 u1 (by rw [zaB, zaE, h1, zaG]) (by rw [zaB, zaE, h2, zaG]) e3 (by rw [u2]; exact zbG _ _)
  simp [s0, s1, hn, ex0, e1, e2, hsl, hct.np, okW_sl hct]
  exact ⟨hT2, held_cut h hT2 e3 u2 hr (zbZ c) (above_mono c) hout⟩
 by_cases o3 : c.op = 3
 ·obtain ⟨T1, T2, hT2, e1, e2, e3⟩ := firsts (S := S) (M := memC S c) h hr hb (sub_memC S c) (fL := 63) (fH := 64) (cL := [.ptr S.next 0 0 7]) (cH := [.ptr S.next 0 0 7]) (kindB c) (pastB c) rfl rfl rfl rfl
   (fun U hU x => kind63 x c S.next (memC_0 hU) (zbN hU).1)
   (fun U hU x => past64 x c S.next (memC_0 hU) (zbN hU).1)
   (kind_mono c) (past_mono c) (past_kind c)
  have hout : ∀ v, holdsB c v = true → kindB c v = true ∧ pastB c v = false := out_3 o3
  have hct := h.cut e3 (by rw [u2]; exact zbG _ _)
  simp only [memC, encC, o3] at e1 e2
  simp only [o3] at s0 s1
  simp [s0, s1, hn]
  refine draws [.p, .r 0 0, .p, .p] (n := 51) (by kernel_rfl) (by simp [hn]) ?_
  have hsl := fun (F : Fr) (h1 : sl F 46 = .int .i64 (cutN (fun x => kindB c x.v) L : Int)) (h2 : sl F 49 = .int .i64 (cutN (fun x => pastB c x.v) L : Int)) => zbA (cx := C0) (F := F) (lo := some (.tmp 46)) (hi := some (.tmp 49)) st78 u1 (by rw [zaB, zaE, h1, zaG]) (by rw [zaB, zaE, h2, zaG]) e3 (by rw [u2]; exact zbG _ _)
  simp [s0, s1, hn, ex0, e1, e2, hsl, hct.np, okW_sl hct]
  exact ⟨hT2, held_cut h hT2 e3 u2 hr (kind_mono c) (past_mono c) hout⟩
 by_cases o4 : c.op = 4
 ·obtain ⟨T1, T2, hT2, e1, e2, e3⟩ := firsts (S := S) (M := memC S c) h hr hb (sub_memC S c) (fL := 63) (fH := 65) (cL := [.ptr S.next 0 0 7]) (cH := [.ptr S.next 0 0 7]) (kindB c) (fromB c) rfl rfl rfl rfl
   (fun U hU x => kind63 x c S.next (memC_0 hU) (zbN hU).1)
   (fun U hU x => from65 x c S.next (memC_0 hU) (zbN hU).1)
   (kind_mono c) (zbZ c) (from_kind c)
  have hout : ∀ v, holdsB c v = true → kindB c v = true ∧ fromB c v = false := out_4 o4
  have hct := h.cut e3 (by rw [u2]; exact zbG _ _)
  simp only [memC, encC, o4] at e1 e2
  simp only [o4] at s0 s1
  simp [s0, s1, hn]
  refine draws [.p, .r 0 0, .p, .p] (n := 51) (by kernel_rfl) (by simp [hn]) ?_
  have hsl := fun (F : Fr) (h1 : sl F 46 = .int .i64 (cutN (fun x => kindB c x.v) L : Int)) (h2 : sl F 49 = .int .i64 (cutN (fun x => fromB c x.v) L : Int)) => zbA (cx := C0) (F := F) (lo := some (.tmp 46)) (hi := some (.tmp 49)) st78 u1 (by rw [zaB, zaE, h1, zaG]) (by rw [zaB, zaE, h2, zaG]) e3 (by rw [u2]; exact zbG _ _)
  simp [s0, s1, hn, ex0, e1, e2, hsl, hct.np, okW_sl hct]
  exact ⟨hT2, held_cut h hT2 e3 u2 hr (kind_mono c) (zbZ c) hout⟩
 by_cases o5 : c.op = 5
 ·obtain ⟨T1, T2, hT2, e1, e2, e3⟩ := firsts (S := S) (M := memC S c) h hr hb (sub_memC S c) (fL := 63) (fH := 66) (cL := [.ptr S.next 0 0 7]) (cH := [.ptr S.next 0 0 7]) (kindB c) (aboveB c) rfl rfl rfl rfl
   (fun U hU x => kind63 x c S.next (memC_0 hU) (zbN hU).1)
   (fun U hU x => above66 x c S.next (memC_0 hU) (zbN hU).1)
   (kind_mono c) (above_mono c) (above_kind c)
  have hout : ∀ v, holdsB c v = true → kindB c v = true ∧ aboveB c v = false := out_5 o5
  have hct := h.cut e3 (by rw [u2]; exact zbG _ _)
  simp only [memC, encC, o5] at e1 e2
  simp only [o5] at s0 s1
  simp [s0, s1, hn]
  refine draws [.p, .r 0 0, .p, .p] (n := 51) (by kernel_rfl) (by simp [hn]) ?_
  have hsl := fun (F : Fr) (h1 : sl F 46 = .int .i64 (cutN (fun x => kindB c x.v) L : Int)) (h2 : sl F 49 = .int .i64 (cutN (fun x => aboveB c x.v) L : Int)) => zbA (cx := C0) (F := F) (lo := some (.tmp 46)) (hi := some (.tmp 49)) st78 u1 (by rw [zaB, zaE, h1, zaG]) (by rw [zaB, zaE, h2, zaG]) e3 (by rw [u2]; exact zbG _ _)
  simp [s0, s1, hn, ex0, e1, e2, hsl, hct.np, okW_sl hct]
  exact ⟨hT2, held_cut h hT2 e3 u2 hr (kind_mono c) (above_mono c) hout⟩
 by_cases o6 : c.op = 6
 ·obtain ⟨T1, T2, hT2, e1, e2, e3⟩ := firsts (S := S) (M := memC S c) h hr hb (sub_memC S c) (fL := 66) (fH := 64) (cL := [.ptr S.next 0 0 7]) (cH := [.ptr S.next 0 0 7]) (aboveB c) (pastB c) rfl rfl rfl rfl
   (fun U hU x => above66 x c S.next (memC_0 hU) (zbN hU).1)
   (fun U hU x => past64 x c S.next (memC_0 hU) (zbN hU).1)
   (above_mono c) (past_mono c) (past_above c)
  have hout : ∀ v, holdsB c v = true → aboveB c v = true ∧ pastB c v = false := out_6 o6
  have hct := h.cut e3 (by rw [u2]; exact zbG _ _)
  simp only [memC, encC, o6] at e1 e2
  simp only [o6] at s0 s1
  simp [s0, s1, hn]
  refine draws [.p, .r 0 0, .p, .p] (n := 51) (by kernel_rfl) (by simp [hn]) ?_
  have hsl := fun (F : Fr) (h1 : sl F 46 = .int .i64 (cutN (fun x => aboveB c x.v) L : Int)) (h2 : sl F 49 = .int .i64 (cutN (fun x => pastB c x.v) L : Int)) => zbA (cx := C0) (F := F) (lo := some (.tmp 46)) (hi := some (.tmp 49)) st78 u1 (by rw [zaB, zaE, h1, zaG]) (by rw [zaB, zaE, h2, zaG]) e3 (by rw [u2]; exact zbG _ _)
  simp [s0, s1, hn, ex0, e1, e2, hsl, hct.np, okW_sl hct]
  exact ⟨hT2, held_cut h hT2 e3 u2 hr (above_mono c) (past_mono c) hout⟩
 by_cases o7 : c.op = 7
 ·obtain ⟨T1, T2, hT2, e1, e2, e3⟩ := firsts (S := S) (M := memC S c) h hr hb (sub_memC S c) (fL := 65) (fH := 64) (cL := [.ptr S.next 0 0 7]) (cH := [.ptr S.next 0 0 7]) (fromB c) (pastB c) rfl rfl rfl rfl
   (fun U hU x => from65 x c S.next (memC_0 hU) (zbN hU).1)
   (fun U hU x => past64 x c S.next (memC_0 hU) (zbN hU).1)
   (zbZ c) (past_mono c) (past_from c)
  have hout : ∀ v, holdsB c v = true → fromB c v = true ∧ pastB c v = false := out_7 o7
  have hct := h.cut e3 (by rw [u2]; exact zbG _ _)
  simp only [memC, encC, o7] at e1 e2
  simp only [o7] at s0 s1
  simp [s0, s1, hn]
  refine draws [.p, .r 0 0, .p, .p] (n := 51) (by kernel_rfl) (by simp [hn]) ?_
  have hsl := fun (F : Fr) (h1 : sl F 46 = .int .i64 (cutN (fun x => fromB c x.v) L : Int)) (h2 : sl F 49 = .int .i64 (cutN (fun x => pastB c x.v) L : Int)) => zbA (cx := C0) (F := F) (lo := some (.tmp 46)) (hi := some (.tmp 49)) st78 u1 (by rw [zaB, zaE, h1, zaG]) (by rw [zaB, zaE, h2, zaG]) e3 (by rw [u2]; exact zbG _ _)
  simp [s0, s1, hn, ex0, e1, e2, hsl, hct.np, okW_sl hct]
  exact ⟨hT2, held_cut h hT2 e3 u2 hr (zbZ c) (past_mono c) hout⟩
 by_cases o8 : c.op = 8
 ·obtain ⟨T1, T2, hT2, e1, e2, e3⟩ := firsts (S := S) (M := memC S c) h hr hb (sub_memC S c) (fL := 65) (fH := 67) (cL := [.ptr S.next 0 0 7]) (cH := [.ptr (S.next + 1) 0 0 1, .ptr (S.next + 2) 0 0 1, .ptr S.next 0 0 7]) (fromB c) (outB c) rfl rfl rfl rfl
   (fun U hU x => from65 x c S.next (memC_0 hU) (zbN hU).1)
   (fun U hU x => out67 x c S.next (S.next + 1) (S.next + 2) (memC_0 hU) (memC_1 hU) (memC_2 hU) (zbN hU).1 (zbN hU).2.1 (zbN hU).2.2)
   (zbZ c) (out_mono (mayC_str hm o8)) (out_from c)
  have hout : ∀ v, holdsB c v = true → fromB c v = true ∧ outB c v = false := out_8 o8 (mayC_str hm o8)
  have hct := h.cut e3 (by rw [u2]; exact zbG _ _)
  simp only [memC, encC, o8] at e1 e2
  simp only [o8] at s0 s1
  simp [s0, s1, hn]
  refine draws [.p, .r 0 0, .p, .p] (n := 51) (by kernel_rfl) (by simp [hn]) ?_
  have hsl := fun (F : Fr) (h1 : sl F 46 = .int .i64 (cutN (fun x => fromB c x.v) L : Int)) (h2 : sl F 49 = .int .i64 (cutN (fun x => outB c x.v) L : Int)) => zbA (cx := C0) (F := F) (lo := some (.tmp 46)) (hi := some (.tmp 49)) st78 u1 (by rw [zaB, zaE, h1, zaG]) (by rw [zaB, zaE, h2, zaG]) e3 (by rw [u2]; exact zbG _ _)
  simp [s0, s1, hn, ex0, e1, e2, hsl, hct.np, okW_sl hct]
  exact ⟨hT2, held_cut h hT2 e3 u2 hr (zbZ c) (out_mono (mayC_str hm o8)) hout⟩
 exfalso
 unfold mayC at hm
 split at hm
 ·cases hm
 split at hm
 ·cases hm
 have o27 : ¬ (2 ≤ c.op ∧ c.op ≤ 7) := by omega
 simp [o1, o8, o9, o27] at hm
end
end Go.Proofs.YtfempihpphbgmaaGreat.idx
end
