/-
  slices.Insert at entries, where the room is known: in place, or in a row of its own.
-/
import Derived.Test.YtfempihpphbgmaaGreatRows
import Derived.Test.YtfempihpphbgmaaGreatAmIns
import Derived.Test.YtfempihpphbgmaaGreatAmWide
import Derived.Test.YtfempihpphbgmaaGreatAmArgs
namespace Go.Proofs.YtfempihpphbgmaaGreat.ins
open Go Go.Am
set_option linter.unusedVariables false
set_option linter.unusedSimpArgs false

noncomputable abbrev A8 : Am.Ask := { exts := [(57, .apart)] }
noncomputable abbrev C8 : Am.Cx := Am.mkCx Tryz.prog A8
theorem ex8 (f : Nat) (h : (f == 57) = false) : C8.exts.get f = none := by
  have h1 : ¬ f = 57 := by simpa using h
  show ((T.leaf : T Xf).set 57 .apart).get f = none
  rw [get_set_ne _ _ h1]; exact get_leaf f
theorem ex57 : C8.exts.get 57 = some .apart := by kernel_rfl
theorem pr8 (f : Nat) : C8.prims.get f = none := get_leaf f
theorem pu8 (f : Nat) : C8.pures.get f = none := get_leaf f
theorem fn31 : C8.fns.get 31 = some Tryz.f31 := by kernel_rfl
theorem ok31 : codeOk C8 Tryz.f31.ntmps (Tryz.f31.body.getD .skip) = true := by kernel_rfl
theorem nt31 : Tryz.f31.ntmps = 95 := by kernel_rfl
@[simp] theorem st78 : slT C8 78 = some (80, 5, 48) := by kernel_rfl
@[simp] theorem un78 : und C8 78 = some (.slice 80) := by kernel_rfl
@[simp] theorem un3 : und C8 3 = some (.int .i64) := by kernel_rfl
@[simp] theorem sz80 : szOf C8 80 = some 5 := by kernel_rfl
@[simp] theorem by80 : bytesOf C8 80 = some 48 := by kernel_rfl
def zeroE : List AV := [.int .i64 0, .int .i64 0, .str [], .bool false, .int .u64 0]
@[simp] theorem ze80 : zeroOf C8 80 = some (.agg zeroE) := by kernel_rfl
theorem zk80 : zeroOk C8 80 5 = true := by kernel_rfl
section
variable {S : AS} {F : Fr} {id g off len lim c : Nat}
theorem cap_gen {cx : Cx} {t e : TypeId} {z : Nat} {ts : List TypeId} (h : und cx t = some (.slice e)) : builtinV cx S .cap (t :: ts) [.slice id g off len lim z (some c)] = .val (.int .i64 (c : Int)) S := by
  show (match und cx t, (AV.slice id g off len lim z (some c)) with
    | some (.slice _), .nils => AR.val (.int .i64 0) S
    | some (.slice _), .slice _ _ _ _ _ _ (some c) => .val (.int .i64 (.ofNat c)) S
    | some (.array n _), _ => .val (.int .i64 (.ofNat n)) S
    | _, _ => .err 2) = _
  rw [h]; rfl
theorem cap_slice {ts : List TypeId} : builtinV C8 S .cap (78 :: ts) [.slice id g off len lim 5 (some c)] = .val (.int .i64 (c : Int)) S := cap_gen un78
theorem sliceV_gen {cx : Cx} {t e : TypeId} {z : Nat} {lo hi : Option Operand} {l k : Nat} (h : und cx t = some (.slice e)) (hz : szOf cx e = some z) (hl : bound F lo 0 = some l) (hh : bound F hi len = some k) (h1 : l ≤ k) (h2 : k ≤ c) :
    sliceV cx F t (.slice id g off len lim z (some c)) lo hi none = some (cutV id g off lim z l k c) := by
  have hb : bounds F len (roomOf len (some c)) lo hi none = some (l, k, c) := by
    unfold bounds
    rw [hl, hh]
    have e : bound F none (roomOf len (some c)) = some c := rfl
    rw [e]
    simp [nble, h1, h2, roomOf, isS]
  unfold sliceV
  simp only [h, hz, hb, nbeq, decide_true, cond_true]
  rfl
theorem sliceV_cap {lo hi : Option Operand} {l k : Nat} (hl : bound F lo 0 = some l) (hh : bound F hi len = some k) (h1 : l ≤ k) (h2 : k ≤ c) :
    sliceV C8 F 78 (.slice id g off len lim 5 (some c)) lo hi none = some (cutV id g off lim 5 l k c) := sliceV_gen un78 sz80 hl hh h1 h2
theorem sliceV_free {cx : Cx} {t e : TypeId} {z : Nat} {lo hi : Option Operand} {l k : Nat} (h : und cx t = some (.slice e)) (hz : szOf cx e = some z) (hl : bound F lo 0 = some l) (hh : bound F hi len = some k) (h1 : l ≤ k) (h2 : k ≤ len) :
    sliceV cx F t (.slice id g off len lim z none) lo hi none = some (.slice id g (off + l * z) (k - l) lim z none) := by
  have hb : bounds F len (roomOf len none) lo hi none = some (l, k, len) := by
    unfold bounds
    rw [hl, hh]
    have e : bound F none (roomOf len none) = some len := rfl
    rw [e]
    simp [nble, h1, h2, roomOf, isS]
  unfold sliceV
  simp only [h, hz, hb, nbeq, decide_true, cond_true, forceN_eq]
  rfl
theorem sliceV_none {lo hi : Option Operand} {l k : Nat} (hl : bound F lo 0 = some l) (hh : bound F hi len = some k) (h1 : l ≤ k) (h2 : k ≤ len) :
    sliceV C8 F 78 (.slice id g off len lim 5 none) lo hi none = some (.slice id g (off + l * 5) (k - l) lim 5 none) := sliceV_free un78 sz80 hl hh h1 h2
theorem cutV_lt {l k : Nat} (h : l < c) : cutV id g off lim 5 l k c = .slice id g (off + l * 5) (k - l) lim 5 (some (c - l)) := by
  unfold cutV
  rw [nbeq, decide_eq_false (by omega)]
  simp only [cond_false, forceN_eq, Nat.sub_eq]
  rfl
theorem okW_cutV {l k : Nat} : okW (cutV id g off lim 5 l k c) = true := by
  unfold cutV
  cases Nat.beq c l <;> simp only [cond_true, cond_false, forceN_eq] <;> rfl
theorem okV_cutV {l k : Nat} : okV (cutV id g off lim 5 l k c) = true := by
  unfold cutV
  cases Nat.beq c l <;> simp only [cond_true, cond_false, forceN_eq] <;> rfl
theorem append_gen {cx : Cx} {t u e bs z : Nat} {d : TypeDesc} {v x : AV} {ts : List TypeId} (h : und cx t = some (.slice e)) (hu : und cx u = some d) (hd : notInt d = true) (hs : szOf cx e = some (z + 1)) (hb : bytesOf cx e = some bs) (hz : zeroOk cx e (z + 1) = true) :
    builtinV cx S .append (t :: u :: ts) [v, x] = vals? (appendV S e (z + 1) bs v x) 4 := by
  show (match und cx t, und cx u with
    | some (.slice e), some (.int _) => vals? (appZ cx S e v x) 3
    | some (.slice e), some _ => match szOf cx e, bytesOf cx e with
      | some (Nat.succ z), some bs => cond (zeroOk cx e (Nat.succ z)) (vals? (appendV S e (Nat.succ z) bs v x) 4) (AR.err 13)
      | _, _ => AR.err 5
    | _, _ => AR.err 6) = _
  rw [h, hu]
  cases d <;> first | (cases hd; done) | simp only [hs, hb, hz, cond_true]
theorem append_at {v x : AV} {ts : List TypeId} : builtinV C8 S .append (78 :: 78 :: ts) [v, x] = vals? (appendV S 80 5 48 v x) 4 := append_gen un78 un78 rfl sz80 by80 zk80
theorem append_genz {cx : Cx} {t u e : Nat} {k : IntKind} {v x : AV} {ts : List TypeId} (h : und cx t = some (.slice e)) (hu : und cx u = some (.int k)) :
    builtinV cx S .append (t :: u :: ts) [v, x] = vals? (appZ cx S e v x) 3 := by
  show (match und cx t, und cx u with
    | some (.slice e), some (.int _) => vals? (appZ cx S e v x) 3
    | some (.slice e), some _ => match szOf cx e, bytesOf cx e with
      | some (Nat.succ z), some bs => cond (zeroOk cx e (Nat.succ z)) (vals? (appendV S e (Nat.succ z) bs v x) 4) (AR.err 13)
      | _, _ => AR.err 5
    | _, _ => AR.err 6) = _
  rw [h, hu]
theorem append_zero {v x : AV} {ts : List TypeId} : builtinV C8 S .append (78 :: 3 :: ts) [v, x] = vals? (appZ C8 S 80 v x) 3 := append_genz un78 un3
theorem copy_gen {cx : Cx} {t e z : Nat} {d x : AV} {ts : List TypeId} (h : und cx t = some (.slice e)) (hz : szOf cx e = some (z + 1)) : builtinV cx S .copy (t :: ts) [d, x] = vals? (copyV S (z + 1) d x) 7 := by
  show (match und cx t with
    | some (.slice e) => match szOf cx e with
      | some (Nat.succ z) => vals? (copyV S (Nat.succ z) d x) 7
      | _ => .err 8
    | _ => .err 9) = _
  rw [h]
  simp only [hz]
theorem copy_at {d x : AV} {ts : List TypeId} : builtinV C8 S .copy (78 :: ts) [d, x] = vals? (copyV S 5 d x) 7 := copy_gen un78 sz80
/-- append(s[:i], make([]entry, n)...) where there is no room. -/
theorem appZ_gen {cx : Cx} {e n sz bs : Nat} {k : IntKind} {zero cells : List AV} (hs : szOf cx e = some (sz + 1)) (hb : bytesOf cx e = some bs) (hz : zeroOf cx e = some (.agg zero)) (hzl : zero.length = sz + 1)
    (ht : taken S (sz + 1) (.slice id g off len lim (sz + 1) (some c)) = some (len, cells)) (hlt : c < len + n) (hf : fits (len + n) bs = true) :
    appZ cx S e (.slice id g off len lim (sz + 1) (some c)) (.int k (n : Int)) = some (grown S e (len + n) (sz + 1) (cells ++ repL n zero)) := by
  unfold appZ
  simp only [hs, hb, hz]
  show (match cellsOf (.agg zero), taken S (sz + 1) (.slice id g off len lim (sz + 1) (some c)) with
    | some zero, some (_, old) => cond (Nat.beq (lenL zero) (Nat.succ sz) && Nat.blt c (Nat.add len n) && fits (Nat.add len n) bs) (some (grown S e (Nat.add len n) (Nat.succ sz) (appL old (repL n zero)))) none
    | _, _ => none) = _
  rw [cellsOf_agg, ht]
  have h1 : (Nat.beq (lenL zero) (Nat.succ sz) && Nat.blt c (Nat.add len n) && fits (Nat.add len n) bs) = true := by
    rw [nbeq, nblt, lenL_eq, decide_eq_true hzl, decide_eq_true (show c < Nat.add len n from hlt)]
    exact hf
  simp only [h1, cond_true, appL_eq]
  rfl
/-- What lies in some elements. -/
theorem taken_at {cells : List AV} {low top : Nat} {frz : Bool} {ty : TypeId} {cap : Option Nat} (h : S.h.get id = some (.row cells low top frz ty)) (h1 : low ≤ g) (h2 : g ≤ top) (h3 : off + len * 5 ≤ lim) :
    taken S 5 (.slice id g off len lim 5 cap) = some (len, (cells.drop off).take (len * 5)) := by
  cases len with
  | zero => show cond (Nat.beq 5 5) (some (0, ([] : List AV))) none = _; rw [nbeq]; simp
  | succ m =>
    show cond (Nat.beq 5 5) (match rd S id g off (Nat.mul (m + 1) 5) lim with | some l => some (m + 1, l) | none => none) none = _
    rw [nbeq, decide_eq_true rfl, cond_true, rd_at, h, rdO_row, if_pos ⟨h1, h2, h3⟩]
    rfl
theorem copyV_at {cells cs : List AV} {low top n m : Nat} {ty : TypeId} {cap : Option Nat} {x : AV} (ht : taken S 5 x = some (n, cs)) (h : S.h.get id = some (.row cells low top false ty)) (hg : g = top) (hm : min n len = m + 1) (hl : off + (m + 1) * 5 ≤ lim) (hcs : cs.length = n * 5)
    (hle : off ≤ cells.length) :
    copyV S 5 (.slice id g off len lim 5 cap) x = some (.int .i64 ((m + 1 : Nat) : Int), ⟨S.h.set id (.row (cells.take off ++ cs.take ((m + 1) * 5) ++ cells.drop (off + (m + 1) * 5)) top top false ty), S.next⟩) := by
  have hlen : (cs.take ((m + 1) * 5)).length = (m + 1) * 5 := by rw [List.length_take, hcs]; omega
  unfold copyV
  rw [ht]
  show cond (Nat.beq 5 5) (match Nat.min n len with
     | 0 => some (AV.int .i64 0, S)
     | m => match wr S id g off lim (takeN (Nat.mul m 5) cs) with
       | some S' => some (AV.int .i64 (.ofNat m), S')
       | none => none) none = _
  have e1 : Nat.min n len = m + 1 := hm
  rw [e1, nbeq, decide_eq_true rfl, cond_true]
  show (match wr S id g off lim (takeN (Nat.mul (m + 1) 5) cs) with
       | some S' => some (AV.int .i64 (.ofNat (m + 1)), S')
       | none => none) = _
  rw [takeN_eq, wr_at, h]
  have e2 : Nat.mul (m + 1) 5 = (m + 1) * 5 := rfl
  rw [e2, wrO_row, hlen, if_pos ⟨hg, hl, rfl⟩, splice_lit hle, hlen]
  rfl
theorem apart_at {l1 l2 z1 z2 : Nat} {id' g' off' len' : Nat} {c1 c2 : Option Nat} {cells cells' : List AV} {low top low' top' : Nat} {ty ty' : TypeId} (hne : id ≠ id') (h1 : S.h.get id = some (.row cells low top false ty)) (h2 : S.h.get id' = some (.row cells' low' top' false ty'))
    (a1 : low ≤ g) (a2 : g ≤ top) (b1 : low' ≤ g') (b2 : g' ≤ top') : extS .apart S [.slice id g off len l1 z1 c1, .slice id' g' off' len' l2 z2 c2] = some (.bool false) := by
  unfold extS apartV
  simp only [nbeq, decide_eq_false hne, cond_false, h1, h2, nble, decide_eq_true a1, decide_eq_true a2, decide_eq_true b1, decide_eq_true b2, Bool.and_self, cond_true]
theorem append_room {cells new : List AV} {top bs n : Nat} {ty : TypeId} {x : AV} (ht : taken S 5 x = some (n + 1, new)) (h : S.h.get id = some (.row cells top top false ty)) (hr : len + (n + 1) ≤ c) (hf : fits (len + (n + 1)) bs = true) (hl : off + len * 5 + new.length ≤ lim) (ho : off + len * 5 ≤ cells.length) :
    appendV S 80 5 bs (.slice id top off len lim 5 (some c)) x = some (.slice id top off (len + (n + 1)) lim 5 (some c), ⟨S.h.set id (.row (cells.take (off + len * 5) ++ new ++ cells.drop (off + len * 5 + new.length)) top top false ty), S.next⟩) := by
  unfold appendV
  simp only [ht, nbeq, decide_true, cond_true, h, nble, Nat.le_refl, Bool.and_self, forceN_eq, Nat.add_eq, hf, decide_eq_true hr]
  rw [wr_at, h, wrO_row]
  have e1 : off + Nat.mul len 5 = off + len * 5 := rfl
  rw [e1, if_pos ⟨rfl, hl, rfl⟩, splice_lit ho]
theorem append_more {cells new : List AV} {top bs n : Nat} {ty : TypeId} {x : AV} (ht : taken S 5 x = some (n + 1, new)) (h : S.h.get id = some (.row cells top top false ty)) (hr : ¬ len + (n + 1) ≤ c) (hf : fits (len + (n + 1)) bs = true) :
    appendV S 80 5 bs (.slice id top off len lim 5 (some c)) x = some (grown S 80 (len + (n + 1)) 5 ((cells.drop off).take (len * 5) ++ new)) := by
  unfold appendV
  simp only [ht, nbeq, decide_true, cond_true, h, nble, Nat.le_refl, Bool.and_self, forceN_eq, Nat.add_eq, hf, decide_eq_false hr, cond_false, takeN_eq, dropN_eq, appL_eq]
  rfl
end
/-- The cells behind an insertion. -/
def insL (cells x : List AV) (i n : Nat) : List AV := cells.take (i * 5) ++ x ++ (cells.take (n * 5)).drop (i * 5)
structure InsAt (S T : AS) (id top c n i : Nat) (cells x : List AV) (v : AV) : Prop where
  lies : (v = .slice id top 0 (n + 1) (c * 5) 5 (some c) ∧ n + 1 ≤ c ∧ ∃ cT, T.h.get id = some (.row cT top top false 80) ∧ cT.length = c * 5 ∧ cT.take ((n + 1) * 5) = insL cells x i n) ∨
    (∃ jd, S.next ≤ jd ∧ v = .slice jd 0 0 (n + 1) ((n + 1) * 5) 5 none ∧ T.h.get jd = some (.row (insL cells x i n) 0 0 false 80) ∧ T.h.get id = S.h.get id)
  hold : ∀ j, j ≠ id → j < S.next → T.h.get j = S.h.get j
  next : S.next ≤ T.next
section
variable {S : AS}
theorem ins31 {id top c n i bid : Nat} {cells x : List AV} (hrow : S.h.get id = some (.row cells top top false 80)) (hcl : cells.length = c * 5) (hn : n ≤ c) (h0 : 0 < n) (hi : i ≤ n) (hf : fits (n + 1) 48 = true)
    (hx : S.h.get bid = some (.row x 0 0 false 80)) (hxl : x.length = 5) (hne : bid ≠ id) (hb : bid < S.next) (hid : id < S.next) :
    CallW C8 31 [.slice id top 0 n (c * 5) 5 (some c), .int .i64 (i : Int), .slice bid 0 0 1 5 5 (some 1)] S fun v T => InsAt S T id top c n i cells x v := by
  have hf' : n + 1 ≤ 4611686018427387904 := by
    unfold fits at hf
    simp only [nble, Bool.and_eq_true, decide_eq_true_eq] at hf
    exact hf.1
  have tx : ∀ cap, taken S 5 (.slice bid 0 0 1 5 5 cap) = some (0 + 1, x) := fun cap => by
    rw [taken_at hx (Nat.le_refl _) (Nat.le_refl _) (by omega)]
    rw [List.drop_zero, List.take_of_length_le (by omega)]
  refine enterW (pu8 _) (pr8 _) fn31 rfl ok31 (by simp) fun F hn' hs => ?_
  rw [nt31] at hn'
  have s0 := hs 0
  have s1 := hs 1
  have s2 := hs 2
  clear hs
  simp only [List.getElem?_cons_zero, List.getElem?_cons_succ, Option.getD_some] at s0 s1 s2
  have hw : IntKind.i64.wrap ((n : Int) + 1) = ((n + 1 : Nat) : Int) := wrap_succ (by omega)
  by_cases hin : i = n
  · subst hin
    by_cases hroom : i + (0 + 1) ≤ c
    · have ha := append_room (off := 0) (len := i) (lim := c * 5) (bs := 48) (tx (some 1)) hrow hroom hf (by omega) (by omega)
      simp [s0, s1, s2, sliceV_cap, hi, hn, okW_cutV, okV_cutV, bound_some, bound_none, natOf_nat, len_slice un78, append_at, ha]
      have hins : insL cells x i i = cells.take (i * 5) ++ x := by
        unfold insL
        rw [List.drop_eq_nil_of_le (by rw [List.length_take]; omega), List.append_nil]
      have hlt : (cells.take (i * 5)).length = i * 5 := by rw [List.length_take]; omega
      refine ⟨.inl ⟨rfl, by omega, _, get_set_same _ _ _, by simp only [List.length_append, List.length_drop, hlt]; omega, ?_⟩, fun j hj _ => get_set_ne _ _ hj, Nat.le_refl _⟩
      rw [hins, ← List.append_assoc, List.take_append_of_le_length (by rw [List.length_append]; omega), List.take_of_length_le (by rw [List.length_append]; omega)]
    · have ha := append_more (off := 0) (len := i) (lim := c * 5) (bs := 48) (tx (some 1)) hrow hroom hf
      obtain rfl : c = i := by omega
      simp [s0, s1, s2, sliceV_cap, okW_cutV, okV_cutV, bound_some, bound_none, natOf_nat, len_slice un78, append_at, ha, grown]
      have hins : insL cells x c c = cells.take (c * 5) ++ x := by
        unfold insL
        rw [List.drop_eq_nil_of_le (by rw [List.length_take]; omega), List.append_nil]
      refine ⟨.inr ⟨S.next, Nat.le_refl _, rfl, by rw [hins]; exact get_set_same _ _ _, get_set_ne _ _ (by omega)⟩, fun j _ hj => get_set_ne _ _ (by omega), Nat.le_succ _⟩
  · have hlt : i < n := by omega
    have hci : ((i : Int) = (n : Int)) = False := by simp; omega
    have hw2 : IntKind.i64.wrap ((i : Int) + 1) = ((i + 1 : Nat) : Int) := wrap_succ (by omega)
    have hli : (cells.take (i * 5)).length = i * 5 := by rw [List.length_take]; omega
    by_cases hroom : n + 1 ≤ c
    · have hcn : ((c : Int) < ((n + 1 : Nat) : Int)) = False := by simp; omega
      have hba : ∀ (l1 l2 z1 z2 o1 o2 n1 n2 : Nat) (c1 c2 : Option Nat), extS .apart S [.slice bid 0 o1 n1 l1 z1 c1, .slice id top o2 n2 l2 z2 c2] = some (.bool false) := fun l1 l2 z1 z2 o1 o2 n1 n2 c1 c2 =>
        apart_at hne hx hrow (Nat.le_refl _) (Nat.le_refl _) (Nat.le_refl _) (Nat.le_refl _)
      have hb2 : bound F none 0 = some 0 := bound_none
      simp [s0, s1, s2, sliceV_cap, hi, hn, hroom, okW_cutV, okV_cutV, bound_some, bound_none, natOf_nat, len_slice un78, append_at, cap_slice, hci, hw, hw2, hcn, cutV_lt, show i < c by omega, show i + 1 < c by omega, show i + 1 ≤ n + 1 by omega, show 0 < c by omega, show i ≤ n + 1 by omega, -Int.natCast_add, callV_ext ex57, hba, hn']
      obtain ⟨m, hm⟩ : ∃ m, n - i = m + 1 := ⟨n - i - 1, by omega⟩
      obtain ⟨S1, hS1⟩ : ∃ S1 : AS, S1 = ⟨S.h.set id (.row (cells.take ((i + 1) * 5) ++ ((cells.drop (i * 5)).take ((n + 1 - i) * 5)).take ((m + 1) * 5) ++ cells.drop ((i + 1) * 5 + (m + 1) * 5)) top top false 80), S.next⟩ := ⟨_, rfl⟩
      have hc1 : copyV ⟨S.h, S.next⟩ 5 (.slice id top ((i + 1) * 5) (n - i) (c * 5) 5 (some (c - (i + 1)))) (.slice id top (i * 5) (n + 1 - i) (c * 5) 5 (some (c - i))) = some (.int .i64 ((m + 1 : Nat) : Int), S1) := by
        rw [hS1]
        exact copyV_at (S := S) (taken_at hrow (Nat.le_refl _) (Nat.le_refl _) (by omega)) hrow rfl (by omega) (by omega) (by rw [List.length_take, List.length_drop]; omega) (by omega)
      have r1 : S1.h.get id = some (.row (cells.take ((i + 1) * 5) ++ ((cells.drop (i * 5)).take ((n + 1 - i) * 5)).take ((m + 1) * 5) ++ cells.drop ((i + 1) * 5 + (m + 1) * 5)) top top false 80) := by rw [hS1]; exact get_set_same _ _ _
      have o1 : ∀ j, j ≠ id → S1.h.get j = S.h.get j := fun j hj => by rw [hS1]; exact get_set_ne _ _ hj
      have n1 : S1.next = S.next := by rw [hS1]
      clear hS1
      have x1 : S1.h.get bid = some (.row x 0 0 false 80) := by rw [o1 _ hne]; exact hx
      have lcs : (cells.take ((i + 1) * 5)).length = (i + 1) * 5 := by rw [List.length_take]; omega
      have lmid : (((cells.drop (i * 5)).take ((n + 1 - i) * 5)).take ((m + 1) * 5)).length = (m + 1) * 5 := by rw [List.length_take, List.length_take, List.length_drop]; omega
      have tx1 : taken S1 5 (.slice bid 0 0 1 5 5 (some 1)) = some (0 + 1, x) := by
        rw [taken_at x1 (Nat.le_refl _) (Nat.le_refl _) (by omega)]
        rw [List.drop_zero, List.take_of_length_le (by omega)]
      obtain ⟨cT, hcT⟩ : ∃ cT, cT = cells.take ((i + 1) * 5) ++ ((cells.drop (i * 5)).take ((n + 1 - i) * 5)).take ((m + 1) * 5) ++ cells.drop ((i + 1) * 5 + (m + 1) * 5) := ⟨_, rfl⟩
      rw [← hcT] at r1
      have lcT : cT.length = c * 5 := by rw [hcT, List.length_append, List.length_append, lcs, lmid, List.length_drop]; omega
      have hc2 : copyV S1 5 (.slice id top (i * 5) (n + 1 - i) (c * 5) 5 (some (c - i))) (.slice bid 0 0 1 5 5 (some 1)) = some (.int .i64 ((0 + 1 : Nat) : Int), ⟨S1.h.set id (.row (cT.take (i * 5) ++ x.take ((0 + 1) * 5) ++ cT.drop (i * 5 + (0 + 1) * 5)) top top false 80), S1.next⟩) :=
        copyV_at tx1 r1 rfl (by omega) (by omega) (by omega) (by omega)
      have key : cT.take (i * 5) ++ x.take ((0 + 1) * 5) ++ cT.drop (i * 5 + (0 + 1) * 5) = insL cells x i n ++ cells.drop ((n + 1) * 5) := by
        have e1 : cT.take (i * 5) = cells.take (i * 5) := by
          rw [hcT, List.append_assoc, List.take_append_of_le_length (by omega), List.take_take, Nat.min_eq_left (by omega)]
        have e2 : x.take ((0 + 1) * 5) = x := List.take_of_length_le (by omega)
        have e3 : cT.drop (i * 5 + (0 + 1) * 5) = (cells.take (n * 5)).drop (i * 5) ++ cells.drop ((n + 1) * 5) := by
          rw [hcT, List.append_assoc, show i * 5 + (0 + 1) * 5 = (i + 1) * 5 by omega]
          conv => lhs; arg 1; rw [← lcs]
          rw [List.drop_left, show (i + 1) * 5 + (m + 1) * 5 = (n + 1) * 5 by omega, List.take_take, Nat.min_eq_left (by omega), List.drop_take, show n * 5 - i * 5 = (m + 1) * 5 by omega]
        rw [e1, e2, e3]
        unfold insL
        simp only [List.append_assoc]
      have lins : (insL cells x i n).length = (n + 1) * 5 := by
        unfold insL
        simp only [List.length_append, List.length_drop, List.length_take]
        omega
      refine draws [.p, .p, .p, .p, .p, .p, .p, .p, .e []] (n := 95) (by kernel_rfl) (by simp [hn']) ?_
      simp [s0, s1, s2, sliceV_cap, hi, hn, hroom, okW_cutV, okV_cutV, bound_some, bound_none, natOf_nat, len_slice un78, append_at, cap_slice, hci, hw, hw2, hcn, cutV_lt, show i < c by omega, show i + 1 < c by omega, show i + 1 ≤ n + 1 by omega, show 0 < c by omega, show i ≤ n + 1 by omega, -Int.natCast_add, copy_at, hn', hc1, hc2]
      refine ⟨.inl ⟨rfl, by omega, _, get_set_same _ _ _, ?_, ?_⟩, fun j hj _ => (get_set_ne _ _ hj).trans (o1 j hj), by show S.next ≤ S1.next; rw [n1]; exact Nat.le_refl _⟩
      · have := congrArg List.length key
        simp only [Nat.zero_add, Nat.one_mul, ← List.append_assoc] at this ⊢
        rw [this, List.length_append, lins, List.length_drop]; omega
      · simp only [Nat.zero_add, Nat.one_mul, ← List.append_assoc] at key ⊢
        rw [key, List.take_append_of_le_length (by omega), List.take_of_length_le (by omega)]
    · obtain rfl : c = n := by omega
      have hcn : ((c : Int) < ((c + 1 : Nat) : Int)) = True := by simp; omega
      have hsub : IntKind.i64.wrap (((c + 1 : Nat) : Int) - (i : Int)) = ((c + 1 - i : Nat) : Int) := by
        rw [show ((c + 1 : Nat) : Int) - (i : Int) = ((c + 1 - i : Nat) : Int) by omega]
        exact wrap_nat (by omega)
      obtain ⟨m, hm⟩ : ∃ m, c - i = m + 1 := ⟨c - i - 1, by omega⟩
      have rl : ∀ k, (repL k zeroE).length = k * 5 := by
        intro k
        induction k with
        | zero => rfl
        | succ k ih =>
          show (appL zeroE (repL k zeroE)).length = _
          rw [appL_eq, List.length_append, ih]
          show 5 + k * 5 = _
          omega
      obtain ⟨g0, hg0⟩ : ∃ g0, g0 = cells.take (i * 5) ++ repL (c + 1 - i) zeroE := ⟨_, rfl⟩
      have l0 : g0.length = (c + 1) * 5 := by rw [hg0, List.length_append, hli, rl]; omega
      obtain ⟨S1, hS1⟩ : ∃ S1 : AS, S1 = ⟨S.h.set S.next (.row g0 0 0 false 80), S.next + 1⟩ := ⟨_, rfl⟩
      have ha : appZ C8 S 80 (.slice id top 0 i (c * 5) 5 (some c)) (.int .i64 ((c + 1 - i : Nat) : Int)) = some (.slice S.next 0 0 (c + 1) ((c + 1) * 5) 5 none, S1) := by
        have := appZ_gen (k := .i64) (n := c + 1 - i) sz80 by80 ze80 rfl (taken_at (cap := some c) (len := i) (off := 0) (lim := c * 5) hrow (Nat.le_refl _) (Nat.le_refl _) (by omega)) (by omega) (by rw [show i + (c + 1 - i) = c + 1 by omega]; exact hf)
        rw [this]
        unfold grown
        rw [hS1, hg0, show i + (c + 1 - i) = c + 1 by omega]
        rfl
      have r1 : S1.h.get S.next = some (.row g0 0 0 false 80) := by rw [hS1]; exact get_set_same _ _ _
      have o1 : ∀ j, j ≠ S.next → S1.h.get j = S.h.get j := fun j hj => by rw [hS1]; exact get_set_ne _ _ hj
      have n1 : S1.next = S.next + 1 := by rw [hS1]
      clear hS1
      have x1 : S1.h.get bid = some (.row x 0 0 false 80) := by rw [o1 _ (by omega)]; exact hx
      have tx1 : taken S1 5 (.slice bid 0 0 1 5 5 (some 1)) = some (0 + 1, x) := by
        rw [taken_at x1 (Nat.le_refl _) (Nat.le_refl _) (by omega)]
        rw [List.drop_zero, List.take_of_length_le (by omega)]
      obtain ⟨g1, hg1⟩ : ∃ g1, g1 = g0.take (i * 5) ++ x.take ((0 + 1) * 5) ++ g0.drop (i * 5 + (0 + 1) * 5) := ⟨_, rfl⟩
      obtain ⟨S2, hS2⟩ : ∃ S2 : AS, S2 = ⟨S1.h.set S.next (.row g1 0 0 false 80), S1.next⟩ := ⟨_, rfl⟩
      have hc1 : copyV S1 5 (.slice S.next 0 (i * 5) (c + 1 - i) ((c + 1) * 5) 5 none) (.slice bid 0 0 1 5 5 (some 1)) = some (.int .i64 ((0 + 1 : Nat) : Int), S2) := by
        rw [hS2, hg1]
        exact copyV_at tx1 r1 rfl (by omega) (by omega) (by omega) (by omega)
      have r2 : S2.h.get S.next = some (.row g1 0 0 false 80) := by rw [hS2]; exact get_set_same _ _ _
      have o2 : ∀ j, j ≠ S.next → S2.h.get j = S.h.get j := fun j hj => by rw [hS2]; exact (get_set_ne _ _ hj).trans (o1 j hj)
      have n2 : S2.next = S.next + 1 := by rw [hS2]; exact n1
      clear hS2
      have hx5 : x.take ((0 + 1) * 5) = x := List.take_of_length_le (by omega)
      have lt0 : (g0.take (i * 5)).length = i * 5 := by rw [List.length_take]; omega
      have l1 : g1.length = (c + 1) * 5 := by rw [hg1, hx5, List.length_append, List.length_append, lt0, List.length_drop]; omega
      have hc2 : copyV ⟨S2.h, S2.next⟩ 5 (.slice S.next 0 ((i + 1) * 5) (c - i) ((c + 1) * 5) 5 none) (.slice id top (i * 5) (c - i) (c * 5) 5 (some (c - i))) = some (.int .i64 ((m + 1 : Nat) : Int), ⟨S2.h.set S.next (.row (g1.take ((i + 1) * 5) ++ ((cells.drop (i * 5)).take ((c - i) * 5)).take ((m + 1) * 5) ++ g1.drop ((i + 1) * 5 + (m + 1) * 5)) 0 0 false 80), S2.next⟩) :=
        copyV_at (S := S2) (taken_at (by rw [o2 _ (by omega)]; exact hrow) (Nat.le_refl _) (Nat.le_refl _) (by omega)) r2 rfl (by omega) (by omega) (by rw [List.length_take, List.length_drop]; omega) (by omega)
      have key : g1.take ((i + 1) * 5) ++ ((cells.drop (i * 5)).take ((c - i) * 5)).take ((m + 1) * 5) ++ g1.drop ((i + 1) * 5 + (m + 1) * 5) = insL cells x i c := by
        have e0 : g0.take (i * 5) = cells.take (i * 5) := by
          rw [hg0, List.take_append_of_le_length (by omega), List.take_take, Nat.min_eq_left (by omega)]
        have e1 : g1.take ((i + 1) * 5) = cells.take (i * 5) ++ x := by
          rw [hg1, hx5, e0, List.take_append_of_le_length (by rw [List.length_append]; omega), List.take_of_length_le (by rw [List.length_append]; omega)]
        have e2 : g1.drop ((i + 1) * 5 + (m + 1) * 5) = [] := List.drop_eq_nil_of_le (by omega)
        have e3 : ((cells.drop (i * 5)).take ((c - i) * 5)).take ((m + 1) * 5) = (cells.take (c * 5)).drop (i * 5) := by
          rw [List.take_take, Nat.min_eq_left (by omega), List.drop_take, show c * 5 - i * 5 = (m + 1) * 5 by omega]
        rw [e1, e2, e3, List.append_nil]
        rfl
      simp [s0, s1, s2, sliceV_cap, sliceV_none, hi, hn, okW_cutV, okV_cutV, bound_some, bound_none, natOf_nat, len_slice un78, append_at, append_zero, cap_slice, hci, hw, hw2, hcn, cutV_lt, hlt, show 0 < c by omega, show i ≤ c + 1 by omega, -Int.natCast_add, copy_at, hn', hsub, ha, hc1]
      refine draws [.p, .p, .p, .p, .p, .p, .p, .p, .e []] (n := 95) (by kernel_rfl) (by simp [hn']) ?_
      simp [s0, s1, s2, sliceV_cap, sliceV_none, hi, hn, okW_cutV, okV_cutV, bound_some, bound_none, natOf_nat, len_slice un78, append_at, append_zero, cap_slice, hci, hw, hw2, hcn, cutV_lt, hlt, show 0 < c by omega, show i ≤ c + 1 by omega, show i + 1 ≤ c + 1 by omega, -Int.natCast_add, copy_at, hn', hsub, ha, hc2]
      refine ⟨.inr ⟨S.next, Nat.le_refl _, rfl, ?_, (get_set_ne _ _ (by omega)).trans (o2 _ (by omega))⟩, fun j hj hl => (get_set_ne _ _ (by omega)).trans (o2 j (by omega)), by show S.next ≤ S2.next; omega⟩
      rw [← key]
      simp only [List.append_assoc]
      exact get_set_same _ _ _
end
end Go.Proofs.YtfempihpphbgmaaGreat.ins
