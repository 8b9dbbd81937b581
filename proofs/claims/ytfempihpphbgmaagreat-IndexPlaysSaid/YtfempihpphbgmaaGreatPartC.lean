/-
  slices.Sorted(maps.Keys(m)) as a function that need not be entered.
-/
import Derived.Test.YtfempihpphbgmaaGreatPartB
import Derived.Shelf.SlMaps.Clone
import Derived.Test.YtfempihpphbgmaaGreatRows
import Derived.Test.YtfempihpphbgmaaGreatAmIns
import Derived.Test.YtfempihpphbgmaaGreatAmWide
import Derived.Test.YtfempihpphbgmaaGreatAmArgs
import Derived.Test.YtfempihpphbgmaaGreatPartA
import Derived.Test.YtfempihpphbgmaaGreatAmCut
import Derived.Test.YtfempihpphbgmaaGreatAmText
noncomputable section
namespace Go.Proofs.YtfempihpphbgmaaGreat.idx
open Go Go.Am Go.Proofs.YtfempihpphbgmaaGreat.mod
set_option linter.unusedVariables false
set_option linter.unusedSimpArgs false
def tr (es : List aX) : List Nat := (es.map gQ).mergeSort fun a b => decide (a ≤ b)
theorem EA (es : List aX) : (tr es).Perm (es.map gQ) := List.mergeSort_perm _ _
theorem EB (es : List aX) : (tr es).Pairwise (· ≤ ·) := by
 have := List.pairwise_mergeSort (le := fun a b : Nat => decide (a ≤ b)) (fun a b c h1 h2 => by simp only [decide_eq_true_eq] at *; omega) (fun a b => by simp only [Bool.or_eq_true, decide_eq_true_eq]; omega) (es.map gQ)
 exact this.imp fun h => by simpa using h
theorem BU {es : List aX} {l : List Nat} (h1 : l.Perm (es.map gQ)) (h2 : l.Pairwise (· ≤ ·)) : l = tr es :=
 List.Perm.eq_of_pairwise (le := (· ≤ ·)) (fun a b _ _ h1 h2 => Nat.le_antisymm h1 h2) h2 (EB es) (h1.trans (EA es).symm)
def nH (S : AS) (l : List Nat) : AV × AS := match l with
 | [] => (.aH, S)
 | x :: l => (.slice (S.next + 5) l.length 0 (l.length + 1) (l.length + 1) 1 none, ⟨S.h.set (S.next + 5) (.row (cI (x :: l)) l.length l.length false 30), S.next + 6⟩)
def Q46 (vs : List AV) (S : AS) (es : List aX) : Prop :=
 ∃ bx mi clock, vs = [.func (.func 79) [] [.ptr bx 0 0 1]] ∧ S.h.get bx = some (.row [.map mi] 0 0 false 70) ∧ S.h.get mi = some (.map es clock) ∧ mW es clock ∧ (∀ e, e ∈ es → e.key = .int .u64 (gQ e : Int)) ∧ bx < S.next ∧ mi < S.next ∧ es.length ≤ 1048576
theorem Q46.uniq {vs : List AV} {S : AS} {es sL : List aX} (h : Q46 vs S es) (h' : Q46 vs S sL) : es = sL := by
 obtain ⟨bx, mi, clock, rfl, h1, h2, _⟩ := h;obtain ⟨bx', mi', clock', e, DU, lV, _⟩ := h'
 cases e
 rw [h1] at DU
 cases DU
 rw [h2] at lV
 cases lV
 rfl
open Classical in
def q46 (vs : List AV) (S : AS) : Option (AV × AS) := if h : ∃ es, Q46 vs S es then some (nH S (tr h.choose)) else none
theorem q46_of {vs : List AV} {S : AS} {es : List aX} (h : Q46 vs S es) : q46 vs S = some (nH S (tr es)) := by
 have hx : ∃ es, Q46 vs S es := ⟨es, h⟩;unfold q46;rw [dif_pos hx, hx.choose_spec.uniq h]
theorem vY : ∀ l : List Nat, cP (bQ 2) (cI l) = true
 | [] => rfl
 | x :: l => by
  show (bQ 2 (.int .u64 (x : Int)) && cP (bQ 2) (cI l)) = true;rw [vY l]; rfl
theorem prim46 {Λ : LB} (hr : jA Tryz.prog As) (hp : ∀ x, x ∈ As.aV → dY Λ Tryz.prog x.1 x.2) (hg : ∀ x, x ∈ As.dE → jt Λ.w Λ.B x.1 x.2) : dY Λ Tryz.prog 46 q46 := by
 refine prim_kept (A := As) hr hp hg fun vs S v S' hq => ?_
 have hq2 := hq;unfold q46 at hq2
 split at hq2
 case isFalse => cases hq2
 case isTrue h =>
  clear hq2;obtain ⟨es, hQ⟩ := h;rw [q46_of hQ] at hq;obtain ⟨bx, mi, clock, rfl, h1, h2, h3, h4, h5, h6, h7⟩ := hQ;have hc := sorted46 (S := nV S [bx, mi]) (by rw [lN, if_pos (by simp)]; exact h1) (by rw [lN, if_pos (by simp)]; exact h2) h3 h4 h5 h6 h7
  have hnx : (nV S [bx, mi]).next = S.next := rfl;have hids : ∀ T, Sub (nV S [bx, mi]) T → ∀ i, i ∈ [bx, mi] → T.h.get i = S.h.get i := by
   intro T hT i hi;have aL : i < S.next := by
    simp only [List.mem_cons, List.not_mem_nil, or_false] at hi;rcases hi with rfl | rfl <;> assumption
   rw [hT.h i aL, lN, if_pos hi]
  cases hl : tr es with
  | nil =>
   rw [hl] at hq
   cases hq
   refine ⟨[bx, mi], (.aH, none), S.next, rfl, rfl, Nat.le_refl _, (fun i o h => (by cases h)), hc.mono ?_⟩
   rintro v T ⟨d, d1, d2, d3, d4⟩
   have hd := BU d1 d2;rcases d4 with ⟨_, rfl⟩ | ⟨hpos, _⟩
   ·exact ⟨rfl, hids T d3, d3.next⟩
   ·exfalso
    rw [hl] at hd;have : d.size = 0 := by rw [← Array.length_toList, hd]; rfl
    omega
  | cons x l =>
   rw [hl] at hq
   cases hq
   refine ⟨[bx, mi], (.slice (S.next + 5) l.length 0 (l.length + 1) (l.length + 1) 1 none, some (S.next + 5, .row (cI (x :: l)) l.length l.length false 30)), S.next + 6, rfl, rfl, by omega, fun i o h => ?_, hc.mono ?_⟩
   ·cases h
    exact ⟨by omega, by omega, _, _, _, rfl, vY _⟩
   rintro v T ⟨d, d1, d2, d3, d4⟩
   have hd := BU d1 d2;rw [hl] at hd;have fi : d.size = l.length + 1 := by rw [← Array.length_toList, hd]; rfl
   rcases d4 with ⟨h0, _⟩ | ⟨_, rfl, ⟨low, w1, w2⟩, w3⟩
   ·omega
   ·rw [hnx, fi] at w2 ⊢
    rw [hnx] at w3;rw [fi] at w1;rw [hd] at w2;simp only [Nat.add_sub_cancel] at w1 w2 ⊢;refine ⟨?_, hids T d3, by omega⟩
    unfold pC;simp only [cg, w2];rw [decide_eq_true (show S.next ≤ S.next + 5 by omega)]
    simp only [cond_true, vY, aK, decide_true, w1, Bool.and_self]
def renC : Go.Shelf.Ren := ⟨fun x => match x with | 5 => 52 | 7 => 84 | x => x, fun x => match x with | 4 => 4 | 20 => 20 | 23 => 70 | 25 => 30 | 3 => 33 | x => x, fun x => x⟩
theorem laysC : SlLaysW.n5 Tryz.prog renC where
 mixed := by kernel_rfl
 f5 := ⟨Tryz.f52.name, by kernel_rfl, by kernel_rfl⟩
 f7 := by kernel_rfl
 t4 := by kernel_rfl
 a4 := fun w => by kernel_rfl
 z4 := fun w => by kernel_rfl
 v4 := fun w => by kernel_rfl
 t20 := by kernel_rfl
 a20 := fun w => by kernel_rfl
 z20 := fun w => by kernel_rfl
 v20 := fun w => by kernel_rfl
 t23 := by kernel_rfl
 a23 := fun w => by kernel_rfl
 z23 := fun w => by kernel_rfl
 v23 := fun w => by kernel_rfl
def q52 (vs : List AV) (S : AS) : Option (AV × AS) := match vs with
 | [.map id] => match S.h.get id with
  | some (.map es clock) => some (.map S.next, ⟨S.h.set S.next (.map es clock), S.next + 1⟩)
  | _ => none
 | _ => none
theorem q52_of {S : AS} {id clock : Nat} {es : List aX} (h : S.h.get id = some (.map es clock)) : q52 [.map id] S = some (.map S.next, ⟨S.h.set S.next (.map es clock), S.next + 1⟩) := by
 unfold q52;simp only [h]
theorem prim52 {Λ : LB} : dY Λ Tryz.prog 52 q52 := by
 intro ρ vs S w args v S' hR hl hq;unfold q52 at hq
 split at hq
 ·rename_i id
  split at hq
  ·rename_i es clock bY
   cases hq
   obtain ⟨y, ys, hy, kQ, rfl⟩ := (show ∃ y ys, args.toList = y :: ys ∧ ah ρ (.map id) y ∧ ys = [] by simpa only [al] using hl)
   simp only [ah] at kQ;obtain ⟨pl, hp, rfl⟩ := kQ;obtain rfl : args = #[.map (some pl.b)] := Array.ext' (by simpa using hy)
   obtain ⟨cq, ES, g1, g2, g3⟩ := hR.dJ id _ bY;rw [hp] at g1
   cases g1
   refine ⟨⟨Tryz.f52, Tryz.func52, rfl⟩, (AnyW.maps_Clone laysC pl.b ES clock w g2).mono ?_⟩
   rintro e w' ⟨rfl, rfl⟩
   obtain ⟨ρ', Ch, k1, k2, k3, k4⟩ := hR.newMap (es := es) (clock := clock) (ES := ES) (w' := w.alloc (.map ES clock)) ⟨⟨rfl, rfl, rfl⟩, rfl⟩ g3;exact ⟨_, ρ', rfl, by simp only [ah]; exact ⟨Ch, k1, by rw [k2]⟩, k3, k4⟩
  ·cases hq
 ·cases hq
end Go.Proofs.YtfempihpphbgmaaGreat.idx
namespace Go.Proofs.YtfempihpphbgmaaGreat.ins
open Go Go.Am
set_option linter.unusedVariables false
set_option linter.unusedSimpArgs false
abbrev A8 : Am.Ask := { exts := [(57, .apart)] }
abbrev C8 : Am.Cx := Am.iF Tryz.prog A8
theorem ex57 : C8.exts.get 57 = some .apart := by kernel_rfl
theorem pr8 (f : Nat) : C8.aV.get f = none := da f
theorem pu8 (f : Nat) : C8.eh.get f = none := da f
theorem fn31 : C8.fns.get 31 = some Tryz.f31 := by kernel_rfl
theorem ok31 : codeOk C8 Tryz.f31.ntmps (Tryz.f31.body.getD .skip) = true := by kernel_rfl
theorem nt31 : Tryz.f31.ntmps = 95 := by kernel_rfl
@[simp] theorem xe : kP C8 78 = some (80, 5, 48) := by kernel_rfl
@[simp] theorem lX : aZ C8 78 = some (.slice 80) := by kernel_rfl
@[simp] theorem un3 : aZ C8 3 = some (.int .i64) := by kernel_rfl
@[simp] theorem tW : aw C8 80 = some 5 := by kernel_rfl
@[simp] theorem by80 : bytesOf C8 80 = some 48 := by kernel_rfl
def mK : List AV := [.int .i64 0, .int .i64 0, .str [], .bool false, .int .u64 0]
@[simp] theorem ze80 : zeroOf C8 80 = some (.agg mK) := by kernel_rfl
theorem zk80 : eZ C8 80 5 = true := by kernel_rfl
section
variable {S : AS} {F : Fr} {id g off len lim c : Nat}
theorem cap_gen {cx : Cx} {t e : TypeId} {z : Nat} {ts : List TypeId} (h : aZ cx t = some (.slice e)) : aJ cx S .cap (t :: ts) [.slice id g off len lim z (some c)] = .val (.int .i64 (c : Int)) S := by
 show (match aZ cx t, (AV.slice id g off len lim z (some c)) with
  | some (.slice _), .aH => AR.val (.int .i64 0) S
  | some (.slice _), .slice _ _ _ _ _ _ (some c) => .val (.int .i64 (.ofNat c)) S
  | some (.array n _), _ => .val (.int .i64 (.ofNat n)) S
  | _, _ => .err 2) = _
 rw [h]; rfl
theorem oR {ts : List TypeId} : aJ C8 S .cap (78 :: ts) [.slice id g off len lim 5 (some c)] = .val (.int .i64 (c : Int)) S := cap_gen lX
theorem Ek {cx : Cx} {t e : TypeId} {z : Nat} {lo hi : Option Operand} {l k : Nat} (h : aZ cx t = some (.slice e)) (hz : aw cx e = some z) (hl : bound F lo 0 = some l) (hh : bound F hi len = some k) (h1 : l ≤ k) (h2 : k ≤ c) :
  cE cx F t (.slice id g off len lim z (some c)) lo hi none = some (jl id g off lim z l k c) := by
 have hb : bounds F len (e6 len (some c)) lo hi none = some (l, k, c) := by
  unfold bounds;rw [hl, hh];have e : bound F none (e6 len (some c)) = some c := rfl;rw [e];simp [cg, h1, h2, e6, su]
 unfold cE;simp only [h, hz, hb, aK, decide_true, cond_true]
 rfl
theorem eI {lo hi : Option Operand} {l k : Nat} (hl : bound F lo 0 = some l) (hh : bound F hi len = some k) (h1 : l ≤ k) (h2 : k ≤ c) :
  cE C8 F 78 (.slice id g off len lim 5 (some c)) lo hi none = some (jl id g off lim 5 l k c) := Ek lX tW hl hh h1 h2
theorem BH {cx : Cx} {t e : TypeId} {z : Nat} {lo hi : Option Operand} {l k : Nat} (h : aZ cx t = some (.slice e)) (hz : aw cx e = some z) (hl : bound F lo 0 = some l) (hh : bound F hi len = some k) (h1 : l ≤ k) (h2 : k ≤ len) :
  cE cx F t (.slice id g off len lim z none) lo hi none = some (.slice id g (off + l * z) (k - l) lim z none) := by
 have hb : bounds F len (e6 len none) lo hi none = some (l, k, len) := by
  unfold bounds;rw [hl, hh];have e : bound F none (e6 len none) = some len := rfl;rw [e];simp [cg, h1, h2, e6, su]
 unfold cE;simp only [h, hz, hb, aK, decide_true, cond_true, aC]
 rfl
theorem tl {lo hi : Option Operand} {l k : Nat} (hl : bound F lo 0 = some l) (hh : bound F hi len = some k) (h1 : l ≤ k) (h2 : k ≤ len) :
  cE C8 F 78 (.slice id g off len lim 5 none) lo hi none = some (.slice id g (off + l * 5) (k - l) lim 5 none) := BH lX tW hl hh h1 h2
theorem oQ {l k : Nat} (h : l < c) : jl id g off lim 5 l k c = .slice id g (off + l * 5) (k - l) lim 5 (some (c - l)) := by
 unfold jl;rw [aK, decide_eq_false (by omega)]
 simp only [cond_false, aC, Nat.sub_eq]
 rfl
theorem jg {l k : Nat} : okW (jl id g off lim 5 l k c) = true := by
 unfold jl
 cases Nat.beq c l <;> simp only [cond_true, cond_false, aC] <;> rfl
theorem jh {l k : Nat} : oW (jl id g off lim 5 l k c) = true := by
 unfold jl
 cases Nat.beq c l <;> simp only [cond_true, cond_false, aC] <;> rfl
theorem append_gen {cx : Cx} {t u e bs z : Nat} {d : TypeDesc} {v x : AV} {ts : List TypeId} (h : aZ cx t = some (.slice e)) (hu : aZ cx u = some d) (hd : rY d = true) (hs : aw cx e = some (z + 1)) (hb : bytesOf cx e = some bs) (hz : eZ cx e (z + 1) = true) :
  aJ cx S .append (t :: u :: ts) [v, x] = b8 (bc S e (z + 1) bs v x) 4 := by
 show (match aZ cx t, aZ cx u with
  | some (.slice e), some (.int _) => b8 (ta cx S e v x) 3
  | some (.slice e), some _ => match aw cx e, bytesOf cx e with
   | some (Nat.succ z), some bs => cond (eZ cx e (Nat.succ z)) (b8 (bc S e (Nat.succ z) bs v x) 4) (AR.err 13)
   | _, _ => AR.err 5
  | _, _ => AR.err 6) = _
 rw [h, hu]
 cases d <;> first | (cases hd; done) | simp only [hs, hb, hz, cond_true]
theorem gM {v x : AV} {ts : List TypeId} : aJ C8 S .append (78 :: 78 :: ts) [v, x] = b8 (bc S 80 5 48 v x) 4 := append_gen lX lX rfl tW by80 zk80
theorem Dv {cx : Cx} {t u e : Nat} {k : IntKind} {v x : AV} {ts : List TypeId} (h : aZ cx t = some (.slice e)) (hu : aZ cx u = some (.int k)) :
  aJ cx S .append (t :: u :: ts) [v, x] = b8 (ta cx S e v x) 3 := by
 show (match aZ cx t, aZ cx u with
  | some (.slice e), some (.int _) => b8 (ta cx S e v x) 3
  | some (.slice e), some _ => match aw cx e, bytesOf cx e with
   | some (Nat.succ z), some bs => cond (eZ cx e (Nat.succ z)) (b8 (bc S e (Nat.succ z) bs v x) 4) (AR.err 13)
   | _, _ => AR.err 5
  | _, _ => AR.err 6) = _
 rw [h, hu]
theorem tO {v x : AV} {ts : List TypeId} : aJ C8 S .append (78 :: 3 :: ts) [v, x] = b8 (ta C8 S 80 v x) 3 := Dv lX un3
theorem copy_gen {cx : Cx} {t e z : Nat} {d x : AV} {ts : List TypeId} (h : aZ cx t = some (.slice e)) (hz : aw cx e = some (z + 1)) : aJ cx S .copy (t :: ts) [d, x] = b8 (copyV S (z + 1) d x) 7 := by
 show (match aZ cx t with
  | some (.slice e) => match aw cx e with
   | some (Nat.succ z) => b8 (copyV S (Nat.succ z) d x) 7
   | _ => .err 8
  | _ => .err 9) = _
 rw [h];simp only [hz]
theorem AJ {d x : AV} {ts : List TypeId} : aJ C8 S .copy (78 :: ts) [d, x] = b8 (copyV S 5 d x) 7 := copy_gen lX tW
theorem appZ_gen {cx : Cx} {e n sz bs : Nat} {k : IntKind} {zero cells : List AV} (hs : aw cx e = some (sz + 1)) (hb : bytesOf cx e = some bs) (hz : zeroOf cx e = some (.agg zero)) (hzl : zero.length = sz + 1)
  (ht : taken S (sz + 1) (.slice id g off len lim (sz + 1) (some c)) = some (len, cells)) (aL : c < len + n) (hf : fits (len + n) bs = true) :
  ta cx S e (.slice id g off len lim (sz + 1) (some c)) (.int k (n : Int)) = some (grown S e (len + n) (sz + 1) (cells ++ fG n zero)) := by
 unfold ta;simp only [hs, hb, hz];show (match cellsOf (.agg zero), taken S (sz + 1) (.slice id g off len lim (sz + 1) (some c)) with
  | some zero, some (_, old) => cond (Nat.beq (cZ zero) (Nat.succ sz) && Nat.blt c (Nat.add len n) && fits (Nat.add len n) bs) (some (grown S e (Nat.add len n) (Nat.succ sz) (dB old (fG n zero)))) none
  | _, _ => none) = _
 rw [nY, ht];have h1 : (Nat.beq (cZ zero) (Nat.succ sz) && Nat.blt c (Nat.add len n) && fits (Nat.add len n) bs) = true := by
  rw [aK, fI, aU, decide_eq_true hzl, decide_eq_true (show c < Nat.add len n from aL)];exact hf
 simp only [h1, cond_true, bd]
 rfl
theorem jc {cells : List AV} {low top : Nat} {frz : Bool} {ty : TypeId} {cap : Option Nat} (h : S.h.get id = some (.row cells low top frz ty)) (h1 : low ≤ g) (h2 : g ≤ top) (h3 : off + len * 5 ≤ lim) :
  taken S 5 (.slice id g off len lim 5 cap) = some (len, (cells.drop off).take (len * 5)) := by
 cases len with
 | zero => show cond (Nat.beq 5 5) (some (0, ([] : List AV))) none = _; rw [aK]; simp
 | succ m =>
  show cond (Nat.beq 5 5) (match rd S id g off (Nat.mul (m + 1) 5) lim with | some l => some (m + 1, l) | none => none) none = _
  rw [aK, decide_eq_true rfl, cond_true, fV, h, dQ, if_pos ⟨h1, h2, h3⟩]
  rfl
theorem rp {cells cs : List AV} {low top n m : Nat} {ty : TypeId} {cap : Option Nat} {x : AV} (ht : taken S 5 x = some (n, cs)) (h : S.h.get id = some (.row cells low top false ty)) (hg : g = top) (hm : min n len = m + 1) (hl : off + (m + 1) * 5 ≤ lim) (hcs : cs.length = n * 5)
  (hle : off ≤ cells.length) :
  copyV S 5 (.slice id g off len lim 5 cap) x = some (.int .i64 ((m + 1 : Nat) : Int), ⟨S.h.set id (.row (cells.take off ++ cs.take ((m + 1) * 5) ++ cells.drop (off + (m + 1) * 5)) top top false ty), S.next⟩) := by
 have hlen : (cs.take ((m + 1) * 5)).length = (m + 1) * 5 := by rw [List.length_take, hcs]; omega
 unfold copyV;rw [ht];show cond (Nat.beq 5 5) (match Nat.min n len with
    | 0 => some (AV.int .i64 0, S)
    | m => match wr S id g off lim (takeN (Nat.mul m 5) cs) with
     | some S' => some (AV.int .i64 (.ofNat m), S')
     | none => none) none = _
 have e1 : Nat.min n len = m + 1 := hm;rw [e1, aK, decide_eq_true rfl, cond_true];show (match wr S id g off lim (takeN (Nat.mul (m + 1) 5) cs) with
      | some S' => some (AV.int .i64 (.ofNat (m + 1)), S')
      | none => none) = _
 rw [bX, yb, h];have e2 : Nat.mul (m + 1) 5 = (m + 1) * 5 := rfl;rw [e2, ox, hlen, if_pos ⟨hg, hl, rfl⟩, l4 hle, hlen]
 rfl
theorem apart_at {l1 l2 z1 z2 : Nat} {qu g' off' len' : Nat} {c1 c2 : Option Nat} {cells cells' : List AV} {low top low' oT : Nat} {ty yd : TypeId} (bO : id ≠ qu) (h1 : S.h.get id = some (.row cells low top false ty)) (h2 : S.h.get qu = some (.row cells' low' oT false yd))
  (a1 : low ≤ g) (a2 : g ≤ top) (b1 : low' ≤ g') (b2 : g' ≤ oT) : extS .apart S [.slice id g off len l1 z1 c1, .slice qu g' off' len' l2 z2 c2] = some (.bool false) := by
 unfold extS A5;simp only [aK, decide_eq_false bO, cond_false, h1, h2, cg, decide_eq_true a1, decide_eq_true a2, decide_eq_true b1, decide_eq_true b2, Bool.and_self, cond_true]
theorem tP {cells new : List AV} {top bs n : Nat} {ty : TypeId} {x : AV} (ht : taken S 5 x = some (n + 1, new)) (h : S.h.get id = some (.row cells top top false ty)) (hr : len + (n + 1) ≤ c) (hf : fits (len + (n + 1)) bs = true) (hl : off + len * 5 + new.length ≤ lim) (ho : off + len * 5 ≤ cells.length) :
  bc S 80 5 bs (.slice id top off len lim 5 (some c)) x = some (.slice id top off (len + (n + 1)) lim 5 (some c), ⟨S.h.set id (.row (cells.take (off + len * 5) ++ new ++ cells.drop (off + len * 5 + new.length)) top top false ty), S.next⟩) := by
 unfold bc;simp only [ht, aK, decide_true, cond_true, h, cg, Nat.le_refl, Bool.and_self, aC, Nat.add_eq, hf, decide_eq_true hr];rw [yb, h, ox];have e1 : off + Nat.mul len 5 = off + len * 5 := rfl;rw [e1, if_pos ⟨rfl, hl, rfl⟩, l4 ho]
theorem Du {cells new : List AV} {top bs n : Nat} {ty : TypeId} {x : AV} (ht : taken S 5 x = some (n + 1, new)) (h : S.h.get id = some (.row cells top top false ty)) (hr : ¬ len + (n + 1) ≤ c) (hf : fits (len + (n + 1)) bs = true) :
  bc S 80 5 bs (.slice id top off len lim 5 (some c)) x = some (grown S 80 (len + (n + 1)) 5 ((cells.drop off).take (len * 5) ++ new)) := by
 unfold bc;simp only [ht, aK, decide_true, cond_true, h, cg, Nat.le_refl, Bool.and_self, aC, Nat.add_eq, hf, decide_eq_false hr, cond_false, bX, ck, bd]
 rfl
end
def sv (cells x : List AV) (i n : Nat) : List AV := cells.take (i * 5) ++ x ++ (cells.take (n * 5)).drop (i * 5)
structure InsAt (S T : AS) (id top c n i : Nat) (cells x : List AV) (v : AV) : Prop where
 lies : (v = .slice id top 0 (n + 1) (c * 5) 5 (some c) ∧ n + 1 ≤ c ∧ ∃ cT, T.h.get id = some (.row cT top top false 80) ∧ cT.length = c * 5 ∧ cT.take ((n + 1) * 5) = sv cells x i n) ∨
  (∃ jd, S.next ≤ jd ∧ v = .slice jd 0 0 (n + 1) ((n + 1) * 5) 5 none ∧ T.h.get jd = some (.row (sv cells x i n) 0 0 false 80) ∧ T.h.get id = S.h.get id)
 hold : ∀ j, j ≠ id → j < S.next → T.h.get j = S.h.get j
 next : S.next ≤ T.next
section
variable {S : AS}
theorem ins31 {id top c n i bid : Nat} {cells x : List AV} (fw : S.h.get id = some (.row cells top top false 80)) (pY : cells.length = c * 5) (hn : n ≤ c) (h0 : 0 < n) (hi : i ≤ n) (hf : fits (n + 1) 48 = true)
  (hx : S.h.get bid = some (.row x 0 0 false 80)) (hxl : x.length = 5) (bO : bid ≠ id) (hb : bid < S.next) (bY : id < S.next) :
  ai C8 31 [.slice id top 0 n (c * 5) 5 (some c), .int .i64 (i : Int), .slice bid 0 0 1 5 5 (some 1)] S fun v T => InsAt S T id top c n i cells x v := by
 have xz : n + 1 ≤ 4611686018427387904 := by
  unfold fits at hf;simp only [cg, Bool.and_eq_true, decide_eq_true_eq] at hf;exact hf.1
 have tx : ∀ cap, taken S 5 (.slice bid 0 0 1 5 5 cap) = some (0 + 1, x) := fun cap => by
  rw [jc hx (Nat.le_refl _) (Nat.le_refl _) (by omega)]
  rw [List.drop_zero, List.take_of_length_le (by omega)]
 refine br (pu8 _) (pr8 _) fn31 rfl ok31 (by simp) fun F df hs => ?_
 rw [nt31] at df;have s0 := hs 0;have s1 := hs 1;have s2 := hs 2;clear hs;simp only [List.getElem?_cons_zero, List.getElem?_cons_succ, Option.getD_some] at s0 s1 s2;have hw : IntKind.i64.wrap ((n : Int) + 1) = ((n + 1 : Nat) : Int) := aN (by omega)
 by_cases lI : i = n
 ·subst lI
  by_cases mQ : i + (0 + 1) ≤ c
  ·have ha := tP (off := 0) (len := i) (lim := c * 5) (bs := 48) (tx (some 1)) fw mQ hf (by omega) (by omega)
   simp [s0, s1, s2, eI, hi, hn, jg, jh, az, cy, aM, eW lX, gM, ha];have hins : sv cells x i i = cells.take (i * 5) ++ x := by
    unfold sv;rw [List.drop_eq_nil_of_le (by rw [List.length_take]; omega), List.append_nil]
   have aL : (cells.take (i * 5)).length = i * 5 := by rw [List.length_take]; omega
   refine ⟨.inl ⟨rfl, by omega, _, aa _ _ _, by simp only [List.length_append, List.length_drop, aL]; omega, ?_⟩, fun j hj _ => ae _ _ hj, Nat.le_refl _⟩
   rw [hins, ← List.append_assoc, List.take_append_of_le_length (by rw [List.length_append]; omega), List.take_of_length_le (by rw [List.length_append]; omega)]
  ·have ha := Du (off := 0) (len := i) (lim := c * 5) (bs := 48) (tx (some 1)) fw mQ hf
   obtain rfl : c = i := by omega
   simp [s0, s1, s2, eI, jg, jh, az, cy, aM, eW lX, gM, ha, grown];have hins : sv cells x c c = cells.take (c * 5) ++ x := by
    unfold sv;rw [List.drop_eq_nil_of_le (by rw [List.length_take]; omega), List.append_nil]
   refine ⟨.inr ⟨S.next, Nat.le_refl _, rfl, by rw [hins]; exact aa _ _ _, ae _ _ (by omega)⟩, fun j _ hj => ae _ _ (by omega), Nat.le_succ _⟩
 ·have aL : i < n := by omega
  have hci : ((i : Int) = (n : Int)) = False := by simp; omega
  have Ar : IntKind.i64.wrap ((i : Int) + 1) = ((i + 1 : Nat) : Int) := aN (by omega)
  have hli : (cells.take (i * 5)).length = i * 5 := by rw [List.length_take]; omega
  by_cases mQ : n + 1 ≤ c
  ·have hcn : ((c : Int) < ((n + 1 : Nat) : Int)) = False := by simp; omega
   have hba : ∀ (l1 l2 z1 z2 o1 o2 n1 n2 : Nat) (c1 c2 : Option Nat), extS .apart S [.slice bid 0 o1 n1 l1 z1 c1, .slice id top o2 n2 l2 z2 c2] = some (.bool false) := fun l1 l2 z1 z2 o1 o2 n1 n2 c1 c2 =>
    apart_at bO hx fw (Nat.le_refl _) (Nat.le_refl _) (Nat.le_refl _) (Nat.le_refl _)
   have pe : bound F none 0 = some 0 := cy;simp [s0, s1, s2, eI, hi, hn, mQ, jg, jh, az, cy, aM, eW lX, gM, oR, hci, hw, Ar, hcn, oQ, show i < c by omega, show i + 1 < c by omega, show i + 1 ≤ n + 1 by omega, show 0 < c by omega, show i ≤ n + 1 by omega, -Int.natCast_add, zm ex57, hba, df]
   obtain ⟨m, hm⟩ : ∃ m, n - i = m + 1 := ⟨n - i - 1, by omega⟩
   obtain ⟨S1, fp⟩ : ∃ S1 : AS, S1 = ⟨S.h.set id (.row (cells.take ((i + 1) * 5) ++ ((cells.drop (i * 5)).take ((n + 1 - i) * 5)).take ((m + 1) * 5) ++ cells.drop ((i + 1) * 5 + (m + 1) * 5)) top top false 80), S.next⟩ := ⟨_, rfl⟩;have yX : copyV ⟨S.h, S.next⟩ 5 (.slice id top ((i + 1) * 5) (n - i) (c * 5) 5 (some (c - (i + 1)))) (.slice id top (i * 5) (n + 1 - i) (c * 5) 5 (some (c - i))) = some (.int .i64 ((m + 1 : Nat) : Int), S1) := by
    rw [fp];exact rp (S := S) (jc fw (Nat.le_refl _) (Nat.le_refl _) (by omega)) fw rfl (by omega) (by omega) (by rw [List.length_take, List.length_drop]; omega) (by omega)
   have r1 : S1.h.get id = some (.row (cells.take ((i + 1) * 5) ++ ((cells.drop (i * 5)).take ((n + 1 - i) * 5)).take ((m + 1) * 5) ++ cells.drop ((i + 1) * 5 + (m + 1) * 5)) top top false 80) := by rw [fp]; exact aa _ _ _
   have o1 : ∀ j, j ≠ id → S1.h.get j = S.h.get j := fun j hj => by rw [fp]; exact ae _ _ hj
   have n1 : S1.next = S.next := by rw [fp]
   clear fp;have x1 : S1.h.get bid = some (.row x 0 0 false 80) := by rw [o1 _ bO]; exact hx
   have lcs : (cells.take ((i + 1) * 5)).length = (i + 1) * 5 := by rw [List.length_take]; omega
   have lmid : (((cells.drop (i * 5)).take ((n + 1 - i) * 5)).take ((m + 1) * 5)).length = (m + 1) * 5 := by rw [List.length_take, List.length_take, List.length_drop]; omega
   have tx1 : taken S1 5 (.slice bid 0 0 1 5 5 (some 1)) = some (0 + 1, x) := by
    rw [jc x1 (Nat.le_refl _) (Nat.le_refl _) (by omega)]
    rw [List.drop_zero, List.take_of_length_le (by omega)]
   obtain ⟨cT, hcT⟩ : ∃ cT, cT = cells.take ((i + 1) * 5) ++ ((cells.drop (i * 5)).take ((n + 1 - i) * 5)).take ((m + 1) * 5) ++ cells.drop ((i + 1) * 5 + (m + 1) * 5) := ⟨_, rfl⟩;rw [← hcT] at r1;have lcT : cT.length = c * 5 := by rw [hcT, List.length_append, List.length_append, lcs, lmid, List.length_drop]; omega
   have yW : copyV S1 5 (.slice id top (i * 5) (n + 1 - i) (c * 5) 5 (some (c - i))) (.slice bid 0 0 1 5 5 (some 1)) = some (.int .i64 ((0 + 1 : Nat) : Int), ⟨S1.h.set id (.row (cT.take (i * 5) ++ x.take ((0 + 1) * 5) ++ cT.drop (i * 5 + (0 + 1) * 5)) top top false 80), S1.next⟩) :=
    rp tx1 r1 rfl (by omega) (by omega) (by omega) (by omega)
   have key : cT.take (i * 5) ++ x.take ((0 + 1) * 5) ++ cT.drop (i * 5 + (0 + 1) * 5) = sv cells x i n ++ cells.drop ((n + 1) * 5) := by
    have e1 : cT.take (i * 5) = cells.take (i * 5) := by
     rw [hcT, List.append_assoc, List.take_append_of_le_length (by omega), List.take_take, Nat.min_eq_left (by omega)]
    have e2 : x.take ((0 + 1) * 5) = x := List.take_of_length_le (by omega)
    have e3 : cT.drop (i * 5 + (0 + 1) * 5) = (cells.take (n * 5)).drop (i * 5) ++ cells.drop ((n + 1) * 5) := by
     rw [hcT, List.append_assoc, show i * 5 + (0 + 1) * 5 = (i + 1) * 5 by omega]
     conv => lhs; arg 1; rw [← lcs]
     rw [List.drop_left, show (i + 1) * 5 + (m + 1) * 5 = (n + 1) * 5 by omega, List.take_take, Nat.min_eq_left (by omega), List.drop_take, show n * 5 - i * 5 = (m + 1) * 5 by omega]
    rw [e1, e2, e3];unfold sv;simp only [List.append_assoc]
   have lins : (sv cells x i n).length = (n + 1) * 5 := by
    unfold sv;simp only [List.length_append, List.length_drop, List.length_take];omega
   refine aA [.p, .p, .p, .p, .p, .p, .p, .p, .e []] (n := 95) (by kernel_rfl) (by simp [df]) ?_
   simp [s0, s1, s2, eI, hi, hn, mQ, jg, jh, az, cy, aM, eW lX, gM, oR, hci, hw, Ar, hcn, oQ, show i < c by omega, show i + 1 < c by omega, show i + 1 ≤ n + 1 by omega, show 0 < c by omega, show i ≤ n + 1 by omega, -Int.natCast_add, AJ, df, yX, yW]
   refine ⟨.inl ⟨rfl, by omega, _, aa _ _ _, ?_, ?_⟩, fun j hj _ => (ae _ _ hj).trans (o1 j hj), by show S.next ≤ S1.next; rw [n1]; exact Nat.le_refl _⟩
   ·have := congrArg List.length key
    simp only [Nat.zero_add, Nat.one_mul, ← List.append_assoc] at this ⊢;rw [this, List.length_append, lins, List.length_drop]; omega
   ·simp only [Nat.zero_add, Nat.one_mul, ← List.append_assoc] at key ⊢
    rw [key, List.take_append_of_le_length (by omega), List.take_of_length_le (by omega)]
  ·obtain rfl : c = n := by omega
   have hcn : ((c : Int) < ((c + 1 : Nat) : Int)) = True := by simp; omega
   have cr : IntKind.i64.wrap (((c + 1 : Nat) : Int) - (i : Int)) = ((c + 1 - i : Nat) : Int) := by
    rw [show ((c + 1 : Nat) : Int) - (i : Int) = ((c + 1 - i : Nat) : Int) by omega]
    exact ja (by omega)
   obtain ⟨m, hm⟩ : ∃ m, c - i = m + 1 := ⟨c - i - 1, by omega⟩
   have rl : ∀ k, (fG k mK).length = k * 5 := by
    intro k
    induction k with
    | zero => rfl
    | succ k ih =>
     show (dB mK (fG k mK)).length = _;rw [bd, List.length_append, ih];show 5 + k * 5 = _;omega
   obtain ⟨g0, hg0⟩ : ∃ g0, g0 = cells.take (i * 5) ++ fG (c + 1 - i) mK := ⟨_, rfl⟩;have l0 : g0.length = (c + 1) * 5 := by rw [hg0, List.length_append, hli, rl]; omega
   obtain ⟨S1, fp⟩ : ∃ S1 : AS, S1 = ⟨S.h.set S.next (.row g0 0 0 false 80), S.next + 1⟩ := ⟨_, rfl⟩;have ha : ta C8 S 80 (.slice id top 0 i (c * 5) 5 (some c)) (.int .i64 ((c + 1 - i : Nat) : Int)) = some (.slice S.next 0 0 (c + 1) ((c + 1) * 5) 5 none, S1) := by
    have := appZ_gen (k := .i64) (n := c + 1 - i) tW by80 ze80 rfl (jc (cap := some c) (len := i) (off := 0) (lim := c * 5) fw (Nat.le_refl _) (Nat.le_refl _) (by omega)) (by omega) (by rw [show i + (c + 1 - i) = c + 1 by omega]; exact hf)
    rw [this];unfold grown;rw [fp, hg0, show i + (c + 1 - i) = c + 1 by omega]
    rfl
   have r1 : S1.h.get S.next = some (.row g0 0 0 false 80) := by rw [fp]; exact aa _ _ _
   have o1 : ∀ j, j ≠ S.next → S1.h.get j = S.h.get j := fun j hj => by rw [fp]; exact ae _ _ hj
   have n1 : S1.next = S.next + 1 := by rw [fp]
   clear fp;have x1 : S1.h.get bid = some (.row x 0 0 false 80) := by rw [o1 _ (by omega)]; exact hx
   have tx1 : taken S1 5 (.slice bid 0 0 1 5 5 (some 1)) = some (0 + 1, x) := by
    rw [jc x1 (Nat.le_refl _) (Nat.le_refl _) (by omega)]
    rw [List.drop_zero, List.take_of_length_le (by omega)]
   obtain ⟨g1, hg1⟩ : ∃ g1, g1 = g0.take (i * 5) ++ x.take ((0 + 1) * 5) ++ g0.drop (i * 5 + (0 + 1) * 5) := ⟨_, rfl⟩;obtain ⟨S2, lU⟩ : ∃ S2 : AS, S2 = ⟨S1.h.set S.next (.row g1 0 0 false 80), S1.next⟩ := ⟨_, rfl⟩;have yX : copyV S1 5 (.slice S.next 0 (i * 5) (c + 1 - i) ((c + 1) * 5) 5 none) (.slice bid 0 0 1 5 5 (some 1)) = some (.int .i64 ((0 + 1 : Nat) : Int), S2) := by
    rw [lU, hg1];exact rp tx1 r1 rfl (by omega) (by omega) (by omega) (by omega)
   have r2 : S2.h.get S.next = some (.row g1 0 0 false 80) := by rw [lU]; exact aa _ _ _
   have o2 : ∀ j, j ≠ S.next → S2.h.get j = S.h.get j := fun j hj => by rw [lU]; exact (ae _ _ hj).trans (o1 j hj)
   have n2 : S2.next = S.next + 1 := by rw [lU]; exact n1
   clear lU;have hx5 : x.take ((0 + 1) * 5) = x := List.take_of_length_le (by omega)
   have lt0 : (g0.take (i * 5)).length = i * 5 := by rw [List.length_take]; omega
   have l1 : g1.length = (c + 1) * 5 := by rw [hg1, hx5, List.length_append, List.length_append, lt0, List.length_drop]; omega
   have yW : copyV ⟨S2.h, S2.next⟩ 5 (.slice S.next 0 ((i + 1) * 5) (c - i) ((c + 1) * 5) 5 none) (.slice id top (i * 5) (c - i) (c * 5) 5 (some (c - i))) = some (.int .i64 ((m + 1 : Nat) : Int), ⟨S2.h.set S.next (.row (g1.take ((i + 1) * 5) ++ ((cells.drop (i * 5)).take ((c - i) * 5)).take ((m + 1) * 5) ++ g1.drop ((i + 1) * 5 + (m + 1) * 5)) 0 0 false 80), S2.next⟩) :=
    rp (S := S2) (jc (by rw [o2 _ (by omega)]; exact fw) (Nat.le_refl _) (Nat.le_refl _) (by omega)) r2 rfl (by omega) (by omega) (by rw [List.length_take, List.length_drop]; omega) (by omega)
   have key : g1.take ((i + 1) * 5) ++ ((cells.drop (i * 5)).take ((c - i) * 5)).take ((m + 1) * 5) ++ g1.drop ((i + 1) * 5 + (m + 1) * 5) = sv cells x i c := by
    have e0 : g0.take (i * 5) = cells.take (i * 5) := by
     rw [hg0, List.take_append_of_le_length (by omega), List.take_take, Nat.min_eq_left (by omega)]
    have e1 : g1.take ((i + 1) * 5) = cells.take (i * 5) ++ x := by
     rw [hg1, hx5, e0, List.take_append_of_le_length (by rw [List.length_append]; omega), List.take_of_length_le (by rw [List.length_append]; omega)]
    have e2 : g1.drop ((i + 1) * 5 + (m + 1) * 5) = [] := List.drop_eq_nil_of_le (by omega)
    have e3 : ((cells.drop (i * 5)).take ((c - i) * 5)).take ((m + 1) * 5) = (cells.take (c * 5)).drop (i * 5) := by
     rw [List.take_take, Nat.min_eq_left (by omega), List.drop_take, show c * 5 - i * 5 = (m + 1) * 5 by omega]
    rw [e1, e2, e3, List.append_nil]
    rfl
   simp [s0, s1, s2, eI, tl, hi, hn, jg, jh, az, cy, aM, eW lX, gM, tO, oR, hci, hw, Ar, hcn, oQ, aL, show 0 < c by omega, show i ≤ c + 1 by omega, -Int.natCast_add, AJ, df, cr, ha, yX]
   refine aA [.p, .p, .p, .p, .p, .p, .p, .p, .e []] (n := 95) (by kernel_rfl) (by simp [df]) ?_
   simp [s0, s1, s2, eI, tl, hi, hn, jg, jh, az, cy, aM, eW lX, gM, tO, oR, hci, hw, Ar, hcn, oQ, aL, show 0 < c by omega, show i ≤ c + 1 by omega, show i + 1 ≤ c + 1 by omega, -Int.natCast_add, AJ, df, cr, ha, yW]
   refine ⟨.inr ⟨S.next, Nat.le_refl _, rfl, ?_, (ae _ _ (by omega)).trans (o2 _ (by omega))⟩, fun j hj hl => (ae _ _ (by omega)).trans (o2 j (by omega)), by show S.next ≤ S2.next; omega⟩
   rw [← key];simp only [List.append_assoc];exact aa _ _ _
end
variable {Λ : LB}
theorem ins31n {S : AS} {bid : Nat} {x : List AV} (hx : S.h.get bid = some (.row x 0 0 false 80)) (hxl : x.length = 5) :
  ai C8 31 [.aH, .int .i64 0, .slice bid 0 0 1 5 5 (some 1)] S fun v T => v = .slice S.next 0 0 1 5 5 none ∧ T = ⟨S.h.set S.next (.row x 0 0 false 80), S.next + 1⟩ := by
 have tx : taken S 5 (.slice bid 0 0 1 5 5 (some 1)) = some (0 + 1, x) := by
  rw [jc hx (Nat.le_refl _) (Nat.le_refl _) (by omega)]
  rw [List.drop_zero, List.take_of_length_le (by omega)]
 have ha : bc S 80 5 48 .aH (.slice bid 0 0 1 5 5 (some 1)) = some (.slice S.next 0 0 1 5 5 none, ⟨S.h.set S.next (.row x 0 0 false 80), S.next + 1⟩) := by
  unfold bc;simp only [tx];show cond (fits 1 48) (some (grown S 80 1 5 x)) none = _;rw [show fits 1 48 = true from by decide]
  rfl
 refine br (pu8 _) (pr8 _) fn31 rfl ok31 (by simp) fun F df hs => ?_
 rw [nt31] at df;have s0 := hs 0;have s1 := hs 1;have s2 := hs 2;clear hs;simp only [List.getElem?_cons_zero, List.getElem?_cons_succ, Option.getD_some] at s0 s1 s2;have uD : ∀ F : Fr, sl F 11 = .int .i64 0 → cE C8 F 78 .aH (some (.tmp 11)) none none = some .aH := fun F h =>
  dh (v := .aH) (l := 0) (k := 0) xe rfl (by rw [az]; simp [h, vA]) (by simp [cy, ym]) (Nat.le_refl _) (Nat.le_refl _)
 have hlen : ∀ S : AS, aJ C8 S .len [78] [.aH] = .val (.int .i64 0) S := fun S => len_sl xe rfl
 simp [s0, s1, s2, uD, hlen, eW lX, gM, ha]
def insA (S : AS) (id g off n lim i bid : Nat) : Option (AV × AS) :=
 match S.h.get id, S.h.get bid with
 | some (.row cells _ top false ty), some (.row x lx tx false yd) =>
  cond (Nat.beq g top && Nat.beq off 0 && Nat.beq (Nat.mul n 5) lim && Nat.beq (cZ cells) lim && Nat.ble i n && Nat.blt 0 n && fits (Nat.succ n) 48 && Nat.beq ty 80 && Nat.beq yd 80 && Nat.beq lx 0 && Nat.beq tx 0 && Nat.beq (cZ x) 5 && !Nat.beq bid id && cP (bQ 2) cells && cP (bQ 2) x)
   (some (.slice id (Nat.succ top) 0 (Nat.succ n) (Nat.mul (Nat.succ n) 5) 5 none, ⟨S.h.set id (.row (dB (takeN (Nat.mul i 5) cells) (dB x (kc (Nat.mul i 5) cells))) (Nat.succ top) (Nat.succ top) false 80), S.next⟩)) none
 | _, _ => none
def insN (S : AS) (bid : Nat) : Option (AV × AS) :=
 match S.h.get bid with
 | some (.row x lx tx false yd) =>
  cond (Nat.beq yd 80 && Nat.beq lx 0 && Nat.beq tx 0 && Nat.beq (cZ x) 5) (some (.slice S.next 0 0 1 5 5 none, ⟨S.h.set S.next (.row x 0 0 false 80), Nat.succ S.next⟩)) none
 | _ => none
def oneB (v : AV) : Option Nat := match v with
 | .slice bid g off n lim sz (some c) => cond (Nat.beq g 0 && Nat.beq off 0 && Nat.beq n 1 && Nat.beq lim 5 && Nat.beq sz 5 && Nat.beq c 1) (some bid) none
 | _ => none
theorem oneB_eq {v : AV} {bid : Nat} (h : oneB v = some bid) : v = .slice bid 0 0 1 5 5 (some 1) := by
 unfold oneB at h
 split at h
 ·rename_i b g off n lim sz c
  simp only [aK] at h
  cases hc : (decide (g = 0) && decide (off = 0) && decide (n = 1) && decide (lim = 5) && decide (sz = 5) && decide (c = 1)) with
  | false => rw [hc] at h; cases h
  | true =>
   rw [hc] at h
   cases h
   simp only [Bool.and_eq_true, decide_eq_true_eq] at hc;obtain ⟨⟨⟨⟨⟨rfl, rfl⟩, rfl⟩, rfl⟩, rfl⟩, rfl⟩ := hc
   rfl
 ·cases h
def q31 (vs : List AV) (S : AS) : Option (AV × AS) :=
 match vs with
 | [.aH, .int .i64 (.ofNat i), v] => match oneB v with | some bid => cond (Nat.beq i 0) (insN S bid) none | none => none
 | [.slice id g off n lim 5 none, .int .i64 (.ofNat i), v] => match oneB v with | some bid => insA S id g off n lim i bid | none => none
 | _ => none
theorem insA_eq {S : AS} {id g off n lim i bid : Nat} {r : AV × AS} (h : insA S id g off n lim i bid = some r) : ∃ cells low x, S.h.get id = some (.row cells low g false 80) ∧ S.h.get bid = some (.row x 0 0 false 80) ∧
  off = 0 ∧ lim = n * 5 ∧ cells.length = n * 5 ∧ i ≤ n ∧ 0 < n ∧ fits (n + 1) 48 = true ∧ x.length = 5 ∧ bid ≠ id ∧ cP (bQ 2) cells = true ∧ cP (bQ 2) x = true ∧
  r = (.slice id (g + 1) 0 (n + 1) ((n + 1) * 5) 5 none, ⟨S.h.set id (.row (cells.take (i * 5) ++ (x ++ cells.drop (i * 5))) (g + 1) (g + 1) false 80), S.next⟩) := by
 unfold insA at h
 split at h
 ·rename_i cells low top ty x lx tx yd h1 h2
  simp only [aK, cg, fI, aU, bX, ck, bd] at h;generalize hc : (decide (g = top) && decide (off = 0) && decide (Nat.mul n 5 = lim) && decide (cells.length = lim) && decide (i ≤ n) && decide (0 < n) && fits (Nat.succ n) 48 && decide (ty = 80) && decide (yd = 80) && decide (lx = 0) && decide (tx = 0) && decide (x.length = 5) && !decide (bid = id) && cP (bQ 2) cells && cP (bQ 2) x) = cc at h
  cases cc with
  | false => cases h
  | true =>
   simp only [Bool.and_eq_true, decide_eq_true_eq, Bool.not_eq_true', decide_eq_false_iff_not] at hc;obtain ⟨⟨⟨⟨⟨⟨⟨⟨⟨⟨⟨⟨⟨⟨rfl, rfl⟩, rfl⟩, c1⟩, c2⟩, c3⟩, c4⟩, rfl⟩, rfl⟩, rfl⟩, rfl⟩, c5⟩, c6⟩, c7⟩, c8⟩ := hc;rw [cond_true] at h
   cases h
   exact ⟨cells, low, x, h1, h2, rfl, rfl, c1, c2, c3, c4, c5, c6, c7, c8, rfl⟩
 ·cases h
theorem insN_eq {S : AS} {bid : Nat} {r : AV × AS} (h : insN S bid = some r) : ∃ x, S.h.get bid = some (.row x 0 0 false 80) ∧ x.length = 5 ∧ r = (.slice S.next 0 0 1 5 5 none, ⟨S.h.set S.next (.row x 0 0 false 80), S.next + 1⟩) := by
 unfold insN at h
 split at h
 ·rename_i x lx tx yd h2
  simp only [aK, aU] at h;generalize hc : (decide (yd = 80) && decide (lx = 0) && decide (tx = 0) && decide (x.length = 5)) = cc at h
  cases cc with
  | false => cases h
  | true =>
   simp only [Bool.and_eq_true, decide_eq_true_eq] at hc;obtain ⟨⟨⟨rfl, rfl⟩, rfl⟩, c5⟩ := hc;rw [cond_true] at h
   cases h
   exact ⟨x, h2, c5, rfl⟩
 ·cases h
theorem vZ {l : List AV} : cP (bQ 2) l = true ↔ ∀ x, x ∈ l → bQ 2 x = true := by
 induction l with
 | nil => simp [cP]
 | cons y l ih => simp [cP, ih]
theorem prim31 (hr : jA Tryz.prog A8) : dY Λ Tryz.prog 31 q31 := by
 have hp : ∀ x, x ∈ A8.aV → dY Λ Tryz.prog x.1 x.2 := fun x hx => by cases hx
 have hg : ∀ x, x ∈ A8.dE → jt Λ.w Λ.B x.1 x.2 := fun x hx => by cases hx
 intro ρ vs S w args v S' hR hl hq;unfold q31 at hq
 split at hq
 ·rename_i i v0
  cases hb : oneB v0 with
  | none => rw [hb] at hq; cases hq
  | some bid =>
   rw [hb] at hq;obtain rfl := oneB_eq hb;simp only [aK] at hq
   cases hi : decide (i = 0) with
   | false => rw [hi] at hq; cases hq
   | true =>
    rw [hi] at hq;obtain rfl : i = 0 := by simpa using hi
    obtain ⟨x, h1, h2, h3⟩ := insN_eq hq
    cases h3
    obtain ⟨k1, k2⟩ := wC hr hp hg hR hl (ins31n h1 h2);refine ⟨k1, k2.mono ?_⟩
    rintro e w' ⟨x', v', T, ρ', rfl, r1, ⟨rfl, rfl⟩, r3, r4⟩
    exact ⟨x', ρ', rfl, r1, r3, r4⟩
 ·rename_i id g off n lim i v0
  cases hb : oneB v0 with
  | none => rw [hb] at hq; cases hq
  | some bid =>
   rw [hb] at hq;obtain rfl := oneB_eq hb;obtain ⟨cells, low, x, h1, h2, rfl, rfl, h3, h4, h5, h6, h7, h8, h9, qA, rf⟩ := insA_eq hq
   cases rf
   obtain ⟨y, ys, hy, kQ, y2, ys2, rfl, pa, y3, ys3, rfl, hyr3, rfl⟩ := (show ∃ y ys, args.toList = y :: ys ∧ ah ρ (.slice id g 0 n (n * 5) 5 none) y ∧ ∃ y2 ys2, ys = y2 :: ys2 ∧ ah ρ (.int .i64 (i : Int)) y2 ∧ ∃ y3 ys3, ys2 = y3 :: ys3 ∧ ah ρ (.slice bid 0 0 1 5 5 (some 1)) y3 ∧ ys3 = [] by
    simpa only [al, Int.ofNat_eq_natCast] using hl)
   obtain ⟨c, pl, c1, c2, c3, c4, c5⟩ := hR.roomy h1 h3 h5 kQ;have bY := hR.mT id _ h1;have xa := hR.mT bid _ h2;have hx := c5.ext;have rH : al (put ρ id (g + 1) pl) [.slice id (g + 1) 0 n (c * 5) 5 (some c), .int .i64 (i : Int), .slice bid 0 0 1 5 5 (some 1)] args.toList := by
    rw [hy];exact al.cons c3 (al.cons (pa.mono hx _ _) (al.cons (hyr3.mono hx _ _) al.nil))
   have pY : (cells ++ List.replicate (c * 5 - n * 5) AV.top).length = c * 5 := by
    have : n * 5 ≤ c * 5 := Nat.mul_le_mul_right _ c1;simp only [List.length_append, List.length_replicate]; omega
   have hc := ins31 (id := id) (top := g + 1) (c := c) (n := n) (i := i) (bid := bid) (x := x) (S := ⟨S.h.set id (.row (cells ++ List.replicate (c * 5 - n * 5) .top) (g + 1) (g + 1) false 80), S.next⟩) (aa _ _ _) pY c1 h5 h4 h6
    ((ae _ _ h8).trans h2) h7 h8 xa bY
   have hins : sv (cells ++ List.replicate (c * 5 - n * 5) .top) x i n = cells.take (i * 5) ++ (x ++ cells.drop (i * 5)) := by
    unfold sv;rw [List.take_append_of_le_length (show i * 5 ≤ cells.length by omega), List.take_append_of_le_length (show n * 5 ≤ cells.length by omega), List.take_of_length_le (show cells.length ≤ n * 5 by omega), List.append_assoc]
   have mR : cP (bQ 2) (cells.take (i * 5) ++ (x ++ cells.drop (i * 5))) = true := by
    rw [vZ] at h9 qA ⊢;intro y hy;simp only [List.mem_append] at hy;rcases hy with hy | hy | hy
    ·exact h9 y (List.mem_of_mem_take hy)
    ·exact qA y hy
    ·exact h9 y (List.mem_of_mem_drop hy)
   have CK : (cells.take (i * 5) ++ (x ++ cells.drop (i * 5))).length = (n + 1) * 5 := by
    simp only [List.length_append, List.length_take, List.length_drop]; omega
   obtain ⟨k1, k2⟩ := wC hr hp hg c4 rH hc;refine ⟨k1, k2.mono ?_⟩
   rintro e w' ⟨x', v', T, ρ', rfl, r1, r2, r3, r4⟩
   have hK := c5.trans r4;have hold : ∀ j, j ≠ id → j < S.next → T.h.get j = S.h.get j := fun j hj aL => (r2.hold j hj aL).trans (ae _ _ hj)
   rcases r2.lies with ⟨rfl, a1, cT, a2, a3, a4⟩ | ⟨jd, a1, rfl, a2, a3⟩
   ·simp only [ah] at r1
    obtain ⟨pM, c', p1, p2, p3, p4, p5, p6⟩ := r1;rw [hins] at a4;obtain ⟨hle, q1, q2⟩ := R.land hR r3 hK (jd := id) (m := (n + 1) * 5) (cells' := cells.take (i * 5) ++ (x ++ cells.drop (i * 5))) h1 ⟨_, _, a2⟩ hold (.inl rfl) a2 p1 (by have : (n + 1) * 5 ≤ c * 5 := Nat.mul_le_mul_right _ a1; omega) a4.symm mR
    refine ⟨x', _, rfl, ?_, q1, q2⟩;rcases p6 with ⟨e1, e2, e3⟩ | ⟨e1, _⟩
    ·refine ah.dr ⟨pM.b, pM.base, (n + 1) * 5, pM.N, hle⟩ c' (by simp) (Nat.le_refl _) (by omega) p4 p5 (.inl ⟨e1, e2, fun k hk => by cases hk⟩)
    ·omega
   ·simp only [ah] at r1
    obtain ⟨pM, c', p1, p2, p3, p4, p5, p6⟩ := r1;rw [hins] at a2;obtain ⟨hle, q1, q2⟩ := R.land hR r3 hK (jd := jd) (m := (n + 1) * 5) (cells' := cells.take (i * 5) ++ (x ++ cells.drop (i * 5))) h1 ⟨_, _, a3.trans (aa _ _ _)⟩ hold (.inr a1) a2 p1 (Nat.le_of_eq CK.symm) (List.take_of_length_le (Nat.le_of_eq CK)).symm mR;refine ⟨x', _, rfl, ?_, q1, q2⟩;rcases p6 with ⟨e1, e2, e3⟩ | ⟨e1, _⟩
    ·refine ah.dr ⟨pM.b, pM.base, (n + 1) * 5, pM.N, hle⟩ c' (by simp) (Nat.le_refl _) (by omega) p4 p5 (.inl ⟨e1, e2, fun k hk => by cases hk⟩)
    ·omega
 ·cases hq
variable {Λ : LB}
theorem fn34 : C8.fns.get 34 = some Tryz.f34 := by kernel_rfl
theorem ok34 : codeOk C8 Tryz.f34.ntmps (Tryz.f34.body.getD .skip) = true := by kernel_rfl
theorem nt34 : Tryz.f34.ntmps = 33 := by kernel_rfl
section
variable {S : AS} {F : Fr} {id g off len lim c : Nat}
theorem Ej {lo hi mx : Option Operand} {l k m : Nat} (hs : su hi = true) (hl : bound F lo 0 = some l) (hh : bound F hi len = some k) (hm : bound F mx c = some m) (h1 : l ≤ k) (h2 : k ≤ m) (h3 : m ≤ c) :
  cE C8 F 78 (.slice id g off len lim 5 (some c)) lo hi mx = some (jl id g off lim 5 l k m) := by
 have hb : bounds F len (e6 len (some c)) lo hi mx = some (l, k, m) := by
  unfold bounds;rw [hl, hh];have e : bound F mx (e6 len (some c)) = some m := hm;rw [e];simp [cg, h1, h2, h3, e6, hs]
 unfold cE;simp only [lX, tW, hb, aK, decide_true, cond_true, Bool.or_true, su]
theorem Dt {bs : Nat} {x : AV} {cap : Option Nat} (ht : taken S 5 x = some (0, [])) : bc S 80 5 bs (.slice id g off len lim 5 cap) x = some (.slice id g off len lim 5 cap, S) := by
 unfold bc;simp only [ht, aK, decide_true, cond_true]
theorem uV {cap : Option Nat} : taken S 5 (.slice id g off 0 lim 5 cap) = some (0, []) := by
 show cond (Nat.beq 5 5) (some (0, ([] : List AV))) none = _;rw [aK]; simp
theorem clear_one {cells : List AV} {top : Nat} {cap : Option Nat} {ts : List TypeId} (h : S.h.get id = some (.row cells top top false 80)) (hl : off + 5 ≤ lim) (ho : off ≤ cells.length) :
  aJ C8 S .clear (78 :: ts) [.slice id top off 1 lim 5 cap] = .val .undef ⟨S.h.set id (.row (cells.take off ++ mK ++ cells.drop (off + 5)) top top false 80), S.next⟩ := by
 show b8 (wA C8 S 78 (.slice id top off 1 lim 5 cap)) 17 = _;unfold wA;simp only [lX, tW, ze80, nY];have h1 : (Nat.beq 5 5 && Nat.beq (cZ mK) 5) = true := by rw [aU]; rfl
 rw [h1];simp only [cond_true];have h2 : fG 1 mK = mK := by show dB mK [] = _; rw [bd, List.append_nil]
 rw [h2, yb, h, ox];have h3 : mK.length = 5 := rfl;rw [if_pos ⟨rfl, by rw [h3]; exact hl, rfl⟩, l4 ho, h3]
 rfl
end
def delL (cells : List AV) (i n : Nat) : List AV := cells.take (i * 5) ++ (cells.take (n * 5)).drop ((i + 1) * 5)
structure DelAt (S T : AS) (id top c n i : Nat) (cells : List AV) (v : AV) : Prop where
 lies : v = .slice id top 0 (n - 1) (c * 5) 5 (some c)
 row : ∃ cT, T.h.get id = some (.row cT top top false 80) ∧ cT.length = c * 5 ∧ cT.take ((n - 1) * 5) = delL cells i n
 hold : ∀ j, j ≠ id → T.h.get j = S.h.get j
 next : T.next = S.next
theorem del34 {S : AS} {id top c n i : Nat} {cells : List AV} (fw : S.h.get id = some (.row cells top top false 80)) (pY : cells.length = c * 5) (hn : n ≤ c) (hi : i < n) (hf : fits n 48 = true) :
  ai C8 34 [.slice id top 0 n (c * 5) 5 (some c), .int .i64 (i : Int), .int .i64 ((i + 1 : Nat) : Int)] S fun v T => DelAt S T id top c n i cells v := by
 have xz : n ≤ 4611686018427387904 := by
  unfold fits at hf;simp only [cg, Bool.and_eq_true, decide_eq_true_eq] at hf;exact hf.1
 refine br (pu8 _) (pr8 _) fn34 rfl ok34 (by simp) fun F df hs => ?_
 rw [nt34] at df;have s0 := hs 0;have s1 := hs 1;have s2 := hs 2;clear hs;simp only [List.getElem?_cons_zero, List.getElem?_cons_succ, Option.getD_some] at s0 s1 s2;have bO : ((i : Int) = ((i + 1 : Nat) : Int)) = False := by simp; omega
 have hli : (cells.take (i * 5)).length = i * 5 := by rw [List.length_take]; omega
 have e13 : ∀ G : Fr, sl G 9 = .int .i64 (i : Int) → sl G 10 = .int .i64 ((i + 1 : Nat) : Int) → sl G 12 = .int .i64 (n : Int) → cE C8 G 78 (.slice id top 0 n (c * 5) 5 (some c)) (some (.tmp 9)) (some (.tmp 10)) (some (.tmp 12)) = some (jl id top 0 (c * 5) 5 i (i + 1) n) := fun G h1 h2 h3 =>
  Ej rfl (by rw [az, ay, h1, aM]) (by rw [az, ay, h2, aM]) (by rw [az, ay, h3, aM]) (by omega) (by omega) hn
 have e22 : ∀ G : Fr, sl G 21 = .int .i64 (i : Int) → cE C8 G 78 (.slice id top 0 n (c * 5) 5 (some c)) none (some (.tmp 21)) none = some (.slice id top 0 i (c * 5) 5 (some c)) := fun G h1 => by
  rw [eI (l := 0) (k := i) cy (by rw [az, ay, h1, aM]) (by omega) (by omega)]
  unfold jl;rw [aK, decide_eq_false (by omega)]
  simp [aC]
 have e25 : ∀ G : Fr, sl G 24 = .int .i64 ((i + 1 : Nat) : Int) → cE C8 G 78 (.slice id top 0 n (c * 5) 5 (some c)) (some (.tmp 24)) none none = some (jl id top 0 (c * 5) 5 (i + 1) n c) := fun G h1 =>
  eI (by rw [az, ay, h1, aM]) cy (by omega) hn
 have e31 : ∀ G : Fr, sl G 29 = .int .i64 ((n - 1 : Nat) : Int) → sl G 30 = .int .i64 (n : Int) → cE C8 G 78 (.slice id top 0 (n - 1) (c * 5) 5 (some c)) (some (.tmp 29)) (some (.tmp 30)) none = some (.slice id top ((n - 1) * 5) 1 (c * 5) 5 (some (c - (n - 1)))) := fun G h1 h2 => by
  rw [eI (l := n - 1) (k := n) (by rw [az, ay, h1, aM]) (by rw [az, ay, h2, aM]) (by omega) (by omega), oQ (by omega)]
  simp; omega
 obtain ⟨c1, yX, hap, Av⟩ : ∃ c1, c1.length = c * 5 ∧ (bc S 80 5 48 (.slice id top 0 i (c * 5) 5 (some c)) (jl id top 0 (c * 5) 5 (i + 1) n c) = some (.slice id top 0 (n - 1) (c * 5) 5 (some c), ⟨S.h.set id (.row c1 top top false 80), S.next⟩) ∨
   (n = i + 1 ∧ c1 = cells ∧ bc S 80 5 48 (.slice id top 0 i (c * 5) 5 (some c)) (jl id top 0 (c * 5) 5 (i + 1) n c) = some (.slice id top 0 (n - 1) (c * 5) 5 (some c), S))) ∧ c1.take ((n - 1) * 5) = delL cells i n := by
  by_cases lI : i + 1 = n
  ·refine ⟨cells, pY, .inr ⟨lI.symm, rfl, ?_⟩, ?_⟩
   ·have tz : taken S 5 (jl id top 0 (c * 5) 5 (i + 1) n c) = some (0, []) := by
     unfold jl
     cases Nat.beq c (i + 1) <;> simp only [cond_true, cond_false, aC]
     ·rw [show Nat.sub n (i + 1) = 0 from by show n - (i + 1) = 0; omega]; exact uV
     ·exact uV
    rw [Dt tz, show n - 1 = i by omega]
   ·unfold delL
    rw [show n - 1 = i by omega, lI, List.drop_eq_nil_of_le (by rw [List.length_take]; omega), List.append_nil]
  ·have aL : i + 1 < c := by omega
   obtain ⟨m, hm⟩ : ∃ m, n - (i + 1) = m + 1 := ⟨n - (i + 1) - 1, by omega⟩
   have ht : taken S 5 (jl id top 0 (c * 5) 5 (i + 1) n c) = some (m + 1, (cells.drop ((i + 1) * 5)).take ((m + 1) * 5)) := by
    rw [oQ aL, hm, jc fw (Nat.le_refl _) (Nat.le_refl _) (by omega)]
    simp
   have hlen : ((cells.drop ((i + 1) * 5)).take ((m + 1) * 5)).length = (m + 1) * 5 := by rw [List.length_take, List.length_drop]; omega
   have hf1 : fits (i + (m + 1)) 48 = true := by
    unfold fits at hf ⊢;simp only [cg, Bool.and_eq_true, decide_eq_true_eq] at hf ⊢;refine ⟨by omega, Nat.le_trans (Nat.mul_le_mul_right 48 (show i + (m + 1) ≤ n by omega)) hf.2⟩
   have ha := tP (off := 0) (len := i) (c := c) (lim := c * 5) (bs := 48) ht fw (by omega) hf1 (by rw [hlen]; omega) (by omega)
   refine ⟨cells.take (0 + i * 5) ++ (cells.drop ((i + 1) * 5)).take ((m + 1) * 5) ++ cells.drop (0 + i * 5 + ((cells.drop ((i + 1) * 5)).take ((m + 1) * 5)).length), ?_, .inl ?_, ?_⟩
   ·rw [List.length_append, List.length_append, hlen, List.length_drop, List.length_take]; omega
   ·rw [ha, show i + (m + 1) = n - 1 by omega]
   ·unfold delL
    rw [Nat.zero_add, List.take_append_of_le_length (by rw [List.length_append, hlen, hli]; omega), List.take_of_length_le (by rw [List.length_append, hlen, hli]; omega), List.drop_take, show n * 5 - (i + 1) * 5 = (m + 1) * 5 by omega]
 obtain ⟨S1, fp⟩ : ∃ S1 : AS, S1 = ⟨S.h.set id (.row c1 top top false 80), S.next⟩ := ⟨_, rfl⟩;obtain ⟨S2, hap, r1, o1, n1⟩ : ∃ S2 : AS, bc S 80 5 48 (.slice id top 0 i (c * 5) 5 (some c)) (jl id top 0 (c * 5) 5 (i + 1) n c) = some (.slice id top 0 (n - 1) (c * 5) 5 (some c), S2) ∧ S2.h.get id = some (.row c1 top top false 80) ∧ (∀ j, j ≠ id → S2.h.get j = S.h.get j) ∧ S2.next = S.next := by
  rcases hap with h | ⟨_, rfl, h⟩
  ·exact ⟨_, h, aa _ _ _, fun j hj => ae _ _ hj, rfl⟩
  ·exact ⟨S, h, fw, fun _ _ => rfl, rfl⟩
 have hclr := fun ts => clear_one (S := S2) (off := (n - 1) * 5) (lim := c * 5) (cap := some (c - (n - 1))) (ts := ts) r1 (by omega) (by omega)
 simp [s0, s1, s2, e13, bO, eW lX, jg, jh, -Int.natCast_add, df];refine aA [.p, .p, .p, .p, .p, .p, .e [], .p] (n := 33) (by kernel_rfl) (by simp [df]) ?_
 simp [s0, s1, s2, e22, e25, e31, bO, eW lX, jg, jh, -Int.natCast_add, df, gM, hap, hclr];refine ⟨rfl, ⟨_, aa _ _ _, ?_, ?_⟩, fun j hj => (ae _ _ hj).trans (o1 j hj), n1⟩
 ·simp only [List.length_append, List.length_take, List.length_drop]
  have : mK.length = 5 := rfl;omega
 ·rw [List.take_append_of_le_length (by rw [List.length_take]; omega), List.take_take, Nat.min_self]
  exact Av
def delA (S : AS) (id g off n lim i j : Nat) : Option (AV × AS) :=
 match S.h.get id with
 | some (.row cells _ top false ty) =>
  cond (Nat.beq g top && Nat.beq off 0 && Nat.beq (Nat.mul n 5) lim && Nat.beq (cZ cells) lim && Nat.blt i n && Nat.beq j (Nat.succ i) && Nat.beq ty 80 && fits n 48 && cP (bQ 2) cells)
   (some (.slice id (Nat.succ top) 0 (Nat.pred n) (Nat.mul (Nat.pred n) 5) 5 none, ⟨S.h.set id (.row (dB (takeN (Nat.mul i 5) cells) (kc (Nat.mul (Nat.succ i) 5) cells)) (Nat.succ top) (Nat.succ top) false 80), S.next⟩)) none
 | _ => none
def q34 (vs : List AV) (S : AS) : Option (AV × AS) :=
 match vs with
 | [.slice id g off n lim 5 none, .int .i64 (.ofNat i), .int .i64 (.ofNat j)] => delA S id g off n lim i j
 | _ => none
theorem delA_eq {S : AS} {id g off n lim i j : Nat} {r : AV × AS} (h : delA S id g off n lim i j = some r) : ∃ cells low, S.h.get id = some (.row cells low g false 80) ∧
  off = 0 ∧ lim = n * 5 ∧ cells.length = n * 5 ∧ i < n ∧ j = i + 1 ∧ fits n 48 = true ∧ cP (bQ 2) cells = true ∧
  r = (.slice id (g + 1) 0 (n - 1) ((n - 1) * 5) 5 none, ⟨S.h.set id (.row (cells.take (i * 5) ++ cells.drop ((i + 1) * 5)) (g + 1) (g + 1) false 80), S.next⟩) := by
 unfold delA at h
 split at h
 ·rename_i cells low top ty h1
  simp only [aK, fI, aU, bX, ck, bd] at h;generalize hc : (decide (g = top) && decide (off = 0) && decide (Nat.mul n 5 = lim) && decide (cells.length = lim) && decide (i < n) && decide (j = Nat.succ i) && decide (ty = 80) && fits n 48 && cP (bQ 2) cells) = cc at h
  cases cc with
  | false => cases h
  | true =>
   simp only [Bool.and_eq_true, decide_eq_true_eq] at hc;obtain ⟨⟨⟨⟨⟨⟨⟨⟨rfl, rfl⟩, rfl⟩, c1⟩, c2⟩, rfl⟩, rfl⟩, c3⟩, c4⟩ := hc;rw [cond_true] at h
   cases h
   exact ⟨cells, low, h1, rfl, rfl, c1, c2, rfl, c3, c4, rfl⟩
 ·cases h
theorem prim34 (hr : jA Tryz.prog A8) : dY Λ Tryz.prog 34 q34 := by
 have hp : ∀ x, x ∈ A8.aV → dY Λ Tryz.prog x.1 x.2 := fun x hx => by cases hx
 have hg : ∀ x, x ∈ A8.dE → jt Λ.w Λ.B x.1 x.2 := fun x hx => by cases hx
 intro ρ vs S w args v S' hR hl hq;unfold q34 at hq
 split at hq
 ·rename_i id g off n lim i j
  obtain ⟨cells, low, h1, rfl, rfl, h3, h4, rfl, h6, h9, rf⟩ := delA_eq hq
  cases rf
  obtain ⟨y, ys, hy, kQ, y2, ys2, rfl, pa, y3, ys3, rfl, hyr3, rfl⟩ := (show ∃ y ys, args.toList = y :: ys ∧ ah ρ (.slice id g 0 n (n * 5) 5 none) y ∧ ∃ y2 ys2, ys = y2 :: ys2 ∧ ah ρ (.int .i64 (i : Int)) y2 ∧ ∃ y3 ys3, ys2 = y3 :: ys3 ∧ ah ρ (.int .i64 ((i + 1 : Nat) : Int)) y3 ∧ ys3 = [] by
   simpa only [al, Int.ofNat_eq_natCast] using hl)
  obtain ⟨c, pl, c1, c2, c3, c4, c5⟩ := hR.roomy h1 h3 (by omega) kQ
  have bY := hR.mT id _ h1;have hx := c5.ext;have rH : al (put ρ id (g + 1) pl) [.slice id (g + 1) 0 n (c * 5) 5 (some c), .int .i64 (i : Int), .int .i64 ((i + 1 : Nat) : Int)] args.toList := by
   rw [hy];exact al.cons c3 (al.cons (pa.mono hx _ _) (al.cons (hyr3.mono hx _ _) al.nil))
  have pY : (cells ++ List.replicate (c * 5 - n * 5) AV.top).length = c * 5 := by
   have : n * 5 ≤ c * 5 := Nat.mul_le_mul_right _ c1;simp only [List.length_append, List.length_replicate]; omega
  have hc := del34 (id := id) (top := g + 1) (c := c) (n := n) (i := i) (S := ⟨S.h.set id (.row (cells ++ List.replicate (c * 5 - n * 5) .top) (g + 1) (g + 1) false 80), S.next⟩) (aa _ _ _) pY c1 h4 h6;have hdel : delL (cells ++ List.replicate (c * 5 - n * 5) .top) i n = cells.take (i * 5) ++ cells.drop ((i + 1) * 5) := by
   unfold delL;rw [List.take_append_of_le_length (show i * 5 ≤ cells.length by omega), List.take_append_of_le_length (show n * 5 ≤ cells.length by omega), List.take_of_length_le (show cells.length ≤ n * 5 by omega)]
  have mR : cP (bQ 2) (cells.take (i * 5) ++ cells.drop ((i + 1) * 5)) = true := by
   rw [vZ] at h9 ⊢;intro y hy;simp only [List.mem_append] at hy;rcases hy with hy | hy
   ·exact h9 y (List.mem_of_mem_take hy)
   ·exact h9 y (List.mem_of_mem_drop hy)
  have CK : (cells.take (i * 5) ++ cells.drop ((i + 1) * 5)).length = (n - 1) * 5 := by
   simp only [List.length_append, List.length_take, List.length_drop]; omega
  obtain ⟨k1, k2⟩ := wC hr hp hg c4 rH hc;refine ⟨k1, k2.mono ?_⟩
  rintro e w' ⟨x', v', T, ρ', rfl, r1, r2, r3, r4⟩
  have hK := c5.trans r4;have hold : ∀ j, j ≠ id → j < S.next → T.h.get j = S.h.get j := fun j hj aL => (r2.hold j hj).trans (ae _ _ hj)
  obtain ⟨cT, a2, a3, a4⟩ := r2.row;rw [r2.lies] at r1;simp only [ah] at r1;obtain ⟨pM, c', p1, p2, p3, p4, p5, p6⟩ := r1;rw [hdel] at a4;have hle5 : (n - 1) * 5 ≤ c * 5 := Nat.mul_le_mul_right _ (by omega)
  obtain ⟨hle, q1, q2⟩ := R.land hR r3 hK (jd := id) (m := (n - 1) * 5) (cells' := cells.take (i * 5) ++ cells.drop ((i + 1) * 5)) h1 ⟨_, _, a2⟩ hold (.inl rfl) a2 p1 (by omega) a4.symm mR
  refine ⟨x', _, rfl, ?_, q1, q2⟩;rcases p6 with ⟨e1, e2, e3⟩ | ⟨e1, e2, e3, _⟩
  ·refine ah.dr ⟨pM.b, pM.base, (n - 1) * 5, pM.N, hle⟩ c' (by simp) (Nat.le_refl _) (by omega) p4 p5 (.inl ⟨e1, e2, fun k hk => by cases hk⟩)
  ·have := e3 c rfl
   omega
 ·cases hq
end Go.Proofs.YtfempihpphbgmaaGreat.ins
namespace Go.Proofs.YtfempihpphbgmaaGreat.idx
open Go Go.Am Go.Proofs.YtfempihpphbgmaaGreat.mod
set_option linter.unusedVariables false
set_option linter.unusedSimpArgs false
theorem fn10 : C0.fns.get 10 = some Tryz.f10 := by kernel_rfl
theorem ok10 : codeOk C0 Tryz.f10.ntmps (Tryz.f10.body.getD .skip) = true := by kernel_rfl
theorem fn32 : C0.fns.get 32 = some Tryz.f32 := by kernel_rfl
theorem ok32 : codeOk C0 Tryz.f32.ntmps (Tryz.f32.body.getD .skip) = true := by kernel_rfl
theorem fn59 : C0.fns.get 59 = some Tryz.f59 := by kernel_rfl
theorem ok59 : codeOk C0 Tryz.f59.ntmps (Tryz.f59.body.getD .skip) = true := by kernel_rfl
theorem fn60 : C0.fns.get 60 = some Tryz.f60 := by kernel_rfl
theorem ok60 : codeOk C0 Tryz.f60.ntmps (Tryz.f60.body.getD .skip) = true := by kernel_rfl
theorem fn91 : C0.fns.get 91 = some Tryz.f91 := by kernel_rfl
theorem ok91 : codeOk C0 Tryz.f91.ntmps (Tryz.f91.body.getD .skip) = true := by kernel_rfl
@[simp] theorem st112 : kP C0 112 = some (5, 1, 1) := by kernel_rfl
@[simp] theorem ag5 : aE C0 5 = some false := by kernel_rfl
@[simp] theorem sz5 : aw C0 5 = some 1 := by kernel_rfl
@[simp] theorem sT9 : strT C0 9 = true := by kernel_rfl
@[simp] theorem bE112 : bytE C0 112 = some 5 := by kernel_rfl
theorem aW {S : AS} {v : AV} {sz : Nat} {cs : List AV} (h : Sl S v sz cs) : okW v = true := EO h.ok
theorem sl_bytes {S : AS} (l : List Nat) : Sl ⟨S.h.set S.next (.row (sW l) 0 0 true 5), S.next + 1⟩ (.slice S.next 0 0 l.length l.length 1 none) 1 (sW l) := by
 refine ⟨by simp [isSl, jr], ?_, by simp [sLen, Dm], by simp [cJ]⟩
 cases l with
 | nil => simp [nC, sW]
 | cons x l =>
  simp [nC, fV, aa, dQ, sW];rw [List.take_of_length_le (by simp)]
def lQ (n : Nat) : Bool := decide ((n < 97 ∨ 122 < n) ∧ (n < 48 ∨ 57 < n) ∧ n ≠ 45 ∧ n ≠ 46 ∧ n ≠ 95)
def lz (s : List Nat) : Bool := decide (s ≠ [] ∧ s.length ≤ 16 ∧ s.any lQ = false)
section
variable {S : AS}
def Cn (n : Nat) : Bool := (decide ((n : Int) < 97) || decide (122 < (n : Int))) && (decide ((n : Int) < 48) || decide (57 < (n : Int))) && !decide ((n : Int) = 45) && !decide ((n : Int) = 46) && !decide ((n : Int) = 95)
theorem yL (n : Nat) : Cn n = lQ n := by
 unfold Cn lQ;rw [Bool.eq_iff_iff];simp only [Bool.and_eq_true, Bool.or_eq_true, Bool.not_eq_true', decide_eq_true_eq, decide_eq_false_iff_not];omega
theorem bad29 (n : Nat) : ai C0 59 [.int .u8 n] S fun r T => r = .bool (lQ n) ∧ Sub S T := by
 rw [← yL];refine cv (dm _) (dn _ rfl) fn59 rfl ok59 (by simp) fun F hn s0 => ?_
 unfold Cn
 by_cases a1 : (n : Int) < 97 <;> by_cases a2 : 122 < (n : Int) <;> by_cases a3 : (n : Int) < 48 <;> by_cases a4 : 57 < (n : Int) <;> by_cases a5 : (n : Int) = 45 <;> by_cases a6 : (n : Int) = 46 <;> by_cases a7 : (n : Int) = 95 <;>
  first | (exfalso; omega) | simp [s0, a1, a2, a3, a4, a5, a6, a7, Sub.refl]
theorem idx48 {u : AV} {l : List Nat} {f : FuncId} {caps : List AV} {P : Nat → Bool} (h : Sl S u 1 (sW l)) (hb : l.length ≤ 9223372036854775807) (hf : C0.exts.get f = none)
  (hc : ∀ T, Sub S T → ∀ x, x ∈ l → ai C0 f (.int .u8 (x : Int) :: caps) T fun v T' => v = .bool (P x) ∧ Sub T T') :
  ai C0 91 [u, .func (.func f) [] caps] S fun v T => v = .int .i64 (oZ P l) ∧ Sub S T := by
 refine cU (dm _) (dn _ rfl) fn91 rfl ok91 (by simp) fun F hn s0 s1 => ?_
 have u1 := h.sl;have u2 : sLen u = l.length := by rw [h.sm, Dm]
 simp [s0, s1, u1, u2];refine aB (idxH S u (.func (.func f) [] caps) l P) l.length (ky 0 (Sub.refl S) (by simp [s0]) (by simp [s1]) (by simp) (by simp) (Nat.zero_le _) rfl (by simp)) ?_
 rintro k F' S' df ⟨i, cr, t0, t1, t7, t8, hi, hk, ha⟩
 clear df s0 s1 hn
 by_cases b9 : i < l.length
 ·have hx : l[i]? = some l[i] := List.getElem?_eq_getElem b9
  have hl := lB (cx := C0) (e := 5) (h.toSub cr) (k := i) (x := .int .u8 (l[i] : Int)) (by unfold sW; rw [List.getElem?_map, hx]; rfl) ag5
  obtain ⟨v, T', ⟨rfl, hs⟩, e⟩ := (hc S' cr l[i] (List.getElem_mem b9)).ex
  cases hp : P l[i] with
  | true => simp [t0, t1, t7, t8, u1, u2, b9, hl, e, hp, hf, cr.trans hs, uC hx hp ha]
  | false =>
   simp [t0, t1, t7, t8, u1, u2, b9, hl, e, hp, hf];exact ⟨l.length - (i + 1), by omega, ky (i + 1) (cr.trans hs) (by simp [t0]) (by simp [t1]) (by simp [t7]) (by simp [aN (show i < 9223372036854775807 by omega)]) b9 rfl (oz hx hp ha)⟩
 ·have gS : ∀ x, x ∈ l → P x = false := fun x hx => ha x (by rw [List.take_of_length_le (by omega)]; exact hx)
  simp [t7, t8, b9, oH gS, cr]
theorem con30 {u : AV} {l : List Nat} {f : FuncId} {caps : List AV} {P : Nat → Bool} (h : Sl S u 1 (sW l)) (hb : l.length ≤ 9223372036854775807) (hf : C0.exts.get f = none)
  (hc : ∀ T, Sub S T → ∀ x, x ∈ l → ai C0 f (.int .u8 (x : Int) :: caps) T fun v T' => v = .bool (P x) ∧ Sub T T') :
  ai C0 60 [u, .func (.func f) [] caps] S fun v T => v = .bool (l.any P) ∧ Sub S T := by
 obtain ⟨v, T, ⟨rfl, hs⟩, e⟩ := (idx48 h hb hf hc).ex;refine cU (dm _) (dn _ rfl) fn60 rfl ok60 (by simp) fun F hn s0 s1 => ?_
 simp [s0, s1, e, aR, hs, vM]
theorem name32 (s : List Nat) : ai C0 32 [.str s] S fun r T => r = .bool (lz s) ∧ Sub S T := by
 have hs1 : Sub S ⟨S.h.set S.next (.row (sW s) 0 0 true 5), S.next + 1⟩ := cS;refine cv (dm _) (dn _ rfl) fn32 rfl ok32 (by simp) fun F hn s0 => ?_
 unfold lz
 by_cases h1 : s = []
 ·subst h1
  simp [s0, fy, Sub.refl]
 by_cases h2 : (s.length : Int) ≤ 16
 ·have lV : s.length ≤ 16 := by omega
  obtain ⟨r, T, ⟨rfl, hT⟩, e⟩ := (con30 (f := 59) (caps := []) (P := lQ) (sl_bytes (S := S) s) (by omega) (aR _ rfl) (fun T hT x hx => bad29 x)).ex
  have tb := fun (F : Fr) (dst : Option Tmp) (ty : TypeId) (pos : String) (af : Array Edge) (gd : Option (Nat × Bool)) (x : Tmp) (a : sl F x = .str s) => aop_bytes (cx := C0) (F := F) (S := S) (dst := dst) (ty := ty) (pos := pos) (af := af) (gd := gd) (a := 9) (b := 112) ((ay F x).trans a) strOf_str sT9 bE112
  cases ha : s.any lQ <;> rw [ha] at e <;> simp [s0, fy, h1, h2, lV, tb, e, aR, hs1.trans hT, aD iE, ha]
 ·have lV : ¬ s.length ≤ 16 := by omega
  simp [s0, fy, h1, h2, lV, Sub.refl, aD iE]
end
def kl (l : List dD) (i : Nat) : Bool := match l[i]? with
 | none => true
 | some a => lz a.name && gP a.val && (match i with | 0 => true | j + 1 => (match l[j]? with | some b => gq b.name a.name | none => true))
def xm (l : List dD) : Bool := (List.range l.length).all (kl l)
def ec (key : List Nat) (l : List dD) : Bool := xm l && decide (key.length ≤ 16) && decide (l.length ≤ 8)
theorem Co {l : List dD} {i : Nat} (hi : i < l.length) (h : kl l i = false) : xm l = false := by
 unfold xm;rw [List.all_eq_false];exact ⟨i, List.mem_range.2 hi, by simp [h]⟩
theorem yO {l : List dD} (h : ∀ i, i < l.length → kl l i = true) : xm l = true := by
 unfold xm;rw [List.all_eq_true];exact fun i hi => h i (List.mem_range.1 hi)
theorem okAt_0 {l : List dD} {a : dD} (h : l[0]? = some a) : kl l 0 = (lz a.name && gP a.val) := by unfold kl; rw [h]; simp
theorem ET {l : List dD} {j : Nat} {a b : dD} (h : l[j + 1]? = some a) (hb : l[j]? = some b) : kl l (j + 1) = (lz a.name && gP a.val && gq b.name a.name) := by unfold kl; rw [h]; simp only [hb]
theorem okAt_n {l : List dD} {i : Nat} {a : dD} (h : l[i]? = some a) (hn : lz a.name = false) : kl l i = false := by unfold kl; rw [h]; simp [hn]
theorem okAt_v {l : List dD} {i : Nat} {a : dD} (h : l[i]? = some a) (hn : gP a.val = false) : kl l i = false := by unfold kl; rw [h]; simp [hn]
theorem uy {l : List dD} {i : Nat} (h : ∀ j, j < i → kl l j = true) (hi : kl l i = true) : ∀ j, j < i + 1 → kl l j = true := fun j hj => by
 by_cases e : j = i
 ·rw [e]; exact hi
 ·exact h j (by omega)
theorem nt10e : Tryz.f10.ntmps = 50 := by kernel_rfl
@[simp] theorem binS_geq {a b : List Nat} : A3 .geq a b = some (.bool (!gq a b)) := rfl
def mayH (S1 : AS) (b : Nat) (u : AV) (l : List dD) (k : Nat) (F' : Fr) (S' : AS) : Prop :=
 ∃ i : Nat, Sub S1 S' ∧ (∀ j, j < i → kl l j = true) ∧ sl F' 1 = .ptr b 0 0 2 ∧ sl F' 6 = u ∧ sl F' 7 = .int .i64 l.length ∧ sl F' 8 = .int .i64 i ∧ i ≤ l.length ∧ k = l.length - i
theorem Ag {S1 : AS} {b : Nat} {u : AV} {l : List dD} {k : Nat} {F' : Fr} {S' : AS} (i : Nat) (h1 : Sub S1 S') (h2 : ∀ j, j < i → kl l j = true) (h3 : sl F' 1 = .ptr b 0 0 2) (h4 : sl F' 6 = u) (h5 : sl F' 7 = .int .i64 l.length) (h6 : sl F' 8 = .int .i64 i) (h7 : i ≤ l.length) (h8 : k = l.length - i) : mayH S1 b u l k F' S' :=
 ⟨i, h1, h2, h3, h4, h5, h6, h7, h8⟩
section
variable {S : AS}
set_option maxRecDepth 20000 in
set_option maxHeartbeats 1000000 in
theorem evMay10 {key : List Nat} {u : AV} {l : List dD} (hu : eF S u l) : ai C0 10 [.agg [.str key, u]] S fun r T => r = .bool (ec key l) ∧ Sub S T := by
 have fp : Sub S ⟨S.h.set S.next (.row [.str key, u] 0 0 false 33), S.next + 1⟩ := cS;have u1 := hu.sl.sl;have u2 := hu.sl.aO bG (by omega)
 have uk := aW hu.sl;have hle := hu.le;have hold := hu.sl.old;refine br (dm _) (dn _ rfl) fn10 rfl ok10 (by simp) fun F hn ue => ?_
 rw [nt10e] at hn;have s0 := ue 0;clear ue;simp only [List.getElem?_cons_zero, Option.getD_some] at s0;simp [s0, u1, u2, uk, hu.sl.cells];refine aB (mayH ⟨S.h.set S.next (.row [.str key, u] 0 0 false 33), S.next + 1⟩ S.next u l) l.length (Ag 0 (Sub.refl _) (fun j hj => by omega) (by simp) (by simp) (by simp) (by simp) (Nat.zero_le _) rfl) ?_
 rintro k F' S' df ⟨i, q2, qa, t1, t6, t7, t8, hi, uE⟩
 have fg : F'.n = 50 := by rw [df]; simp [hn]
 clear df hn s0;have hSn : S.next + 1 ≤ S'.next := q2.next;have gb : S'.h.get S.next = some (.row [.str key, u] 0 0 false 33) := by rw [q2.h _ (Nat.lt_succ_self _)]; exact aa _ _ _
 by_cases b9 : i < l.length
 ·have hx : l[i]? = some l[i] := List.getElem?_eq_getElem b9
  have huS := hu.sub (fp.trans q2);have iu := cz (cx := C0) (e := 65) huS.sl bG (by omega) hx ag65 sz65
  have nN : kl l i = false → ec key l = false := fun h => by unfold ec; rw [Co b9 h]; rfl
  generalize l[i] = a at hx iu;have hZ : Sub S' ⟨(S'.h.set S'.next (.row [.str [], .int .i64 0, .int .i64 0, .str [], .bool false] 0 0 false 65)).set S'.next (.row (eQ a) 0 0 false 65), S'.next + 1⟩ := jf;obtain ⟨r, T1, ⟨rfl, iv⟩, e1⟩ := (name32 (S := ⟨(S'.h.set S'.next (.row [.str [], .int .i64 0, .int .i64 0, .str [], .bool false] 0 0 false 65)).set S'.next (.row (eQ a) 0 0 false 65), S'.next + 1⟩) a.name).ex;obtain ⟨r, T2, ⟨rfl, iH⟩, e2⟩ := (mayIs a.val T1).ex;have hT1n : S'.next + 1 ≤ T1.next := iv.next;have hT2n := iH.next;have c0 : (⟨(S'.h.set S'.next (.row [.str [], .int .i64 0, .int .i64 0, .str [], .bool false] 0 0 false 65)).set S'.next (.row (eQ a) 0 0 false 65), S'.next + 1⟩ : AS).h.get S'.next = some (.row (eQ a) 0 0 false 65) := aa _ _ _;have c1 : T1.h.get S'.next = some (.row (eQ a) 0 0 false 65) := by rw [iv.h _ (Nat.lt_succ_self _)]; exact c0
  have c2 : T2.h.get S'.next = some (.row (eQ a) 0 0 false 65) := by rw [iH.h _ (by omega)]; exact c1
  have hZ1 := hZ.trans iv;have hZ2 := hZ1.trans iH;have gb2 : T2.h.get S.next = some (.row [.str key, u] 0 0 false 33) := by rw [hZ2.h _ (by omega)]; exact gb
  have gb1 : T1.h.get S.next = some (.row [.str key, u] 0 0 false 33) := by rw [hZ1.h _ (by omega)]; exact gb
  have lU := (fp.trans q2).trans hZ2;have hS3 := (fp.trans q2).trans hZ1;have iY := aN (i := i) (by omega)
  simp only [eQ, aS] at iu e1 e2 c0 c1 c2;simp [t1, t6, t7, t8, u1, u2, b9, iu, fg];refine aA [.p, .r 0 0, .e [], .p, .p, .p, .r 0 0, .e [], .p, .p, .p, .p, .p, .p, .p, .r 0 0, .p, .p, .p, .p, .r 0 0, .p, .r 0 0, .p, .p, .p] (n := 50) (by kernel_rfl) (by simp [fg]) ?_
  cases lJ : lz a.name with
  | false =>
   rw [lJ] at e1;rw [nN (okAt_n hx lJ)];simp [t1, t6, t7, t8, e1, aR, c1, gb1];exact hS3
  | true =>
   rw [lJ] at e1
   cases pe : gP a.val with
   | false =>
    rw [pe] at e2;rw [nN (okAt_v hx pe)];simp [t1, t6, t7, t8, e1, e2, aR, c1, c2, gb1, gb2];exact lU
   | true =>
    rw [pe] at e2
    by_cases h0 : i = 0
    ·have h0' : (i : Int) = 0 := by omega
     subst h0;have fQ := uy qa (by rw [okAt_0 hx, lJ, pe]; rfl)
     simp at t8 iY;simp [t1, t6, t7, t8, e1, e2, aR, c1, c2, gb1, gb2];exact ⟨l.length - (0 + 1), by omega, Ag (0 + 1) (q2.trans hZ2) fQ (by simp [t1]) (by simp [t6]) (by simp [t7]) (by simp; decide) b9 rfl⟩
    ·obtain ⟨j, rfl⟩ : ∃ j, i = j + 1 := ⟨i - 1, by omega⟩
     have hj : j < l.length := by omega
     have hxj : l[j]? = some l[j] := List.getElem?_eq_getElem hj;have mP := hu.sub lU;have hpp := ik (k := j) u1 (by rw [u2]; exact hj)
     have hlp := gL (cx := C0) (e := 9) (o := 0) (y := .str l[j].name) mP.sl bG (by omega) hxj rfl ag9
     have nc : IntKind.i64.wrap ((j : Int) + 1 - 1) = (j : Int) := by
      rw [show ((j : Int) + 1 - 1) = (j : Int) by omega]; exact ja (by omega)
     have lF : IntKind.i64.wrap (j : Int) = (j : Int) := ja (by omega)
     have hgt : (0 : Int) < (j : Int) + 1 := by omega
     have ug := ET hx hxj;rw [lJ, pe] at ug;generalize l[j] = b at hlp ug hxj;simp at iY t8
     cases aL : gq b.name a.name with
     | true =>
      rw [aL] at ug;simp [t1, t6, t7, t8, e1, e2, aR, c1, c2, gb1, gb2, h0, hgt, nc, lF, u1, u2, uk, hj, bl hpp, hlp, aL, iY];exact ⟨l.length - (j + 1 + 1), by omega, Ag (j + 1 + 1) (q2.trans hZ2) (uy qa ug) (by simp [t1]) (by simp [t6]) (by simp [t7]) (by simp [iY]) b9 rfl⟩
     | false =>
      rw [aL] at ug;rw [nN ug];simp [t1, t6, t7, t8, e1, e2, aR, c1, c2, gb1, gb2, h0, hgt, nc, lF, u1, u2, uk, hj, bl hpp, hlp, aL, iY];exact lU
 ·have hie : i = l.length := by omega
  subst hie;have cr := fp.trans q2;have qW := yO qa;unfold ec;rw [qW]
  by_cases k1 : key.length ≤ 16
  ·have k1' : (key.length : Int) ≤ 16 := by omega
   by_cases k2 : l.length ≤ 8
   ·have k2' : (l.length : Int) ≤ 8 := by omega
    simp [t1, t6, t7, t8, gb, k1, k2, k1', k2', u1, u2, uk, aD iE];exact cr
   ·have k2' : ¬ (l.length : Int) ≤ 8 := by omega
    simp [t1, t6, t7, t8, gb, k1, k2, k1', k2', u1, u2, uk, aD iE];exact cr
  ·have k1' : ¬ (key.length : Int) ≤ 16 := by omega
   simp [t1, t6, t7, t8, gb, k1, k1', u1, u2, uk, aD iE];exact cr
end
theorem fn56 : C0.fns.get 56 = some Tryz.f56 := by kernel_rfl
theorem ok56 : codeOk C0 Tryz.f56.ntmps (Tryz.f56.body.getD .skip) = true := by kernel_rfl
theorem fn93 : C0.fns.get 93 = some Tryz.f93 := by kernel_rfl
theorem ok93 : codeOk C0 Tryz.f93.ntmps (Tryz.f93.body.getD .skip) = true := by kernel_rfl
structure ef where
 v : gN
 n : Nat
def bB (e : ef) : List AV := aS e.v ++ [.int .u64 (e.n : Int)]
theorem bF (e : ef) : (bB e).length = 5 := rfl
def iN (a b : ef) : Int := if cM a.v b.v = 0 then iD (a.n : Int) (b.n : Int) else cM a.v b.v
section
variable {S : AS}
theorem nan89 (a : Int) {Q : AV → AS → Prop} : ai C0 89 [.int .u64 a] S Q = Q (.bool false) S := by
 refine ai.eq (cv (dm _) (dn _ rfl) fn89 rfl ok89 (by simp) fun F hn s0 => ?_)
 simp [s0]
theorem cmp56 (a b : Int) {Q : AV → AS → Prop} : ai C0 56 [.int .u64 a, .int .u64 b] S Q = Q (.int .i64 (iD a b)) S := by
 refine ai.eq (cU (dm _) (dn _ rfl) fn56 rfl ok56 (by simp) fun F hn s0 s1 => ?_)
 unfold iD
 by_cases h1 : a < b
 ·simp [s0, s1, h1, aR, nan89]
 by_cases h2 : b < a
 ·simp [s0, s1, h1, h2, aR, nan89]
 simp [s0, s1, h1, h2, aR, nan89]
theorem order30 (a b : ef) : ai C0 30 [.agg (bB a), .agg (bB b)] S fun r T => r = .int .i64 (iN a b) ∧ Sub S T := by
 have hS : Sub S ⟨(S.h.set S.next (.row (bB a) 0 0 false 80)).set (S.next + 1) (.row (bB b) 0 0 false 80), S.next + 2⟩ := kD;obtain ⟨r, T, ⟨rfl, hT⟩, e⟩ := (compare a.v b.v ⟨(S.h.set S.next (.row (bB a) 0 0 false 80)).set (S.next + 1) (.row (bB b) 0 0 false 80), S.next + 2⟩).ex;have g0 : T.h.get S.next = some (.row (bB a) 0 0 false 80) := by
  rw [hT.h _ (by show S.next < S.next + 2; omega)]
  simp only [ae _ _ (show S.next ≠ S.next + 1 by omega)]; exact aa _ _ _
 have g1 : T.h.get (S.next + 1) = some (.row (bB b) 0 0 false 80) := by
  rw [hT.h _ (by show S.next + 1 < S.next + 2; omega)]; exact aa _ _ _
 refine br (dm _) (dn _ rfl) fn30 rfl ok30 (by simp) fun F hn hs => ?_
 have s0 := hs 0;have s1 := hs 1;clear hs;simp only [List.getElem?_cons_zero, List.getElem?_cons_succ, Option.getD_some, bB, aS, List.cons_append, List.nil_append] at s0 s1 e g0 g1;unfold iN
 by_cases h : cM a.v b.v = 0
 ·simp [s0, s1, aR, e, h, g0, g1, cmp56, hS.trans hT]
 ·simp [s0, s1, aR, e, h, g0, g1, cmp56, hS.trans hT]
theorem u64_nat {n : Nat} (h : n < 18446744073709551616) : IntKind.u64.wrap (n : Int) = (n : Int) := by
 simp [IntKind.wrap, IntKind.bits, IntKind.signed]; omega
def bsH (S1 : AS) (u cf tg : AV) (tt nt n k : Nat) (m : Nat) (F' : Fr) (S' : AS) : Prop :=
 ∃ lo hi : Nat, Sub S1 S' ∧ sl F' 0 = u ∧ sl F' 2 = cf ∧ sl F' tt = tg ∧ sl F' 8 = .int .i64 n ∧ sl F' 9 = .int .i64 lo ∧ sl F' 10 = .int .i64 hi ∧ lo ≤ k ∧ k ≤ hi ∧ hi ≤ n ∧ m = hi - lo ∧ F'.n = nt
theorem sY {S1 : AS} {u cf tg : AV} {tt nt n k : Nat} {m : Nat} {F' : Fr} {S' : AS} (lo hi : Nat) (h1 : Sub S1 S') (h2 : sl F' 0 = u) (h3 : sl F' 2 = cf) (h4 : sl F' tt = tg) (h5 : sl F' 8 = .int .i64 n) (h6 : sl F' 9 = .int .i64 lo) (h7 : sl F' 10 = .int .i64 hi)
  (h8 : lo ≤ k) (h9 : k ≤ hi) (qA : hi ≤ n) (rf : m = hi - lo) (DT : F'.n = nt) : bsH S1 u cf tg tt nt n k m F' S' := ⟨lo, hi, h1, h2, h3, h4, h5, h6, h7, h8, h9, qA, rf, DT⟩
theorem nt29 : Tryz.f29.ntmps = 49 := by kernel_rfl
theorem nt93 : Tryz.f93.ntmps = 49 := by kernel_rfl
structure Cut {α : Type} (g : α → Int) (L : List α) (k : Nat) : Prop where
 le : k ≤ L.length
 lt : ∀ i x, L[i]? = some x → (g x < 0 ↔ i < k)
def kG {α : Type} (g : α → Int) (L : List α) (k : Nat) : Bool := match L[k]? with | some x => decide (g x = 0) | none => false
set_option maxRecDepth 20000 in
theorem search93 {u : AV} {L : List ef} {f : FuncId} {caps : List AV} {g : ef → Int} {k : Nat} (h : Sl S u 5 (L.flatMap bB)) (hb : L.length ≤ 4611686018427387904) (hf : (f == 132) = false) (hk : Cut g L k)
  (hc : ∀ T, Sub S T → ∀ x, x ∈ L → ai C0 f (.agg (bB x) :: .bool true :: caps) T fun v T' => v = .int .i64 (g x) ∧ Sub T T') :
  ai C0 93 [u, .bool true, .func (.func f) [] caps] S fun v T => v = .tuple [.int .i64 k, .bool (kG g L k)] ∧ Sub S T := by
 have u1 := h.sl;have u2 := h.aO bF (by omega)
 have uk := aW h;refine ka (dm _) (dn _ rfl) fn93 rfl ok93 (by simp) fun F hn s0 s1 s2 => ?_
 rw [nt93] at hn;simp [s0, s1, s2, u1, u2, uk];refine aB (bsH S u (.func (.func f) [] caps) (.bool true) 1 49 L.length k) L.length (sY 0 L.length (Sub.refl S) (by simp [s0]) (by simp [s2]) (by simp [s1]) (by simp) (by simp) (by simp) (Nat.zero_le _) hk.le (Nat.le_refl _) rfl (by simp [hn])) ?_
 rintro m F' S' df ⟨lo, hi, q1, t0, t2, t1, t8, t9, t10, q2, q3, q4, q5, fg⟩
 clear df hn s0 s1 s2
 by_cases aL : lo < hi
 ·have hm : (lo + hi) / 2 < L.length := by omega
  obtain ⟨md, hmd⟩ : ∃ md, md = (lo + hi) / 2 := ⟨_, rfl⟩;rw [← hmd] at hm;have hx : L[md]? = some L[md] := List.getElem?_eq_getElem hm;have iu := cz (cx := C0) (e := 80) (h.toSub q1) bF (by omega) hx ag80 tW
  obtain ⟨v, T', ⟨rfl, ue⟩, e⟩ := (hc S' q1 L[md] (List.getElem_mem hm)).ex;have hiff := hk.lt md _ hx;have w1 : IntKind.i64.wrap ((lo : Int) + (hi : Int)) = ((lo + hi : Nat) : Int) := by rw [show (lo : Int) + (hi : Int) = ((lo + hi : Nat) : Int) by omega]; exact ja (by omega)
  have w2 : IntKind.u64.wrap ((lo + hi : Nat) : Int) = ((lo + hi : Nat) : Int) := u64_nat (by omega)
  have w3 : ∀ t c, cK C0 .shr t c (.int .u64 ((lo + hi : Nat) : Int)) (.int .u64 1) = some (.int .u64 (md : Int)) := fun t c => by
   have := qF (lo + hi) 1 (by omega) t c
   rw [show (2 : Nat) ^ 1 = 2 from rfl, ← hmd] at this;exact this
  have w4 : IntKind.i64.wrap (md : Int) = (md : Int) := ja (by omega)
  have w5 := aN (i := md) (by omega)
  by_cases hg : g L[md] < 0
  ·simp [t0, t1, t2, t8, t9, t10, aL, -Int.natCast_add, w1, w2, w3, w4, w5, u1, u2, hm, iu, e, aR f hf, hg]
   exact ⟨hi - (md + 1), by omega, sY (md + 1) hi (q1.trans ue) (by simp [t0]) (by simp [t2]) (by simp [t1]) (by simp [t8]) (by simp [w5, -Int.natCast_add]) (by simp [t10]) (by have := hiff.1 hg; omega) q3 q4 rfl (by simp [fg])⟩
  ·simp [t0, t1, t2, t8, t9, t10, aL, -Int.natCast_add, w1, w2, w3, w4, w5, u1, u2, hm, iu, e, aR f hf, hg]
   exact ⟨md - lo, by omega, sY lo md (q1.trans ue) (by simp [t0]) (by simp [t2]) (by simp [t1]) (by simp [t8]) (by simp [t9]) (by simp) q2 (by have := fun h => hg (hiff.2 h); omega) (by omega) rfl (by simp [fg])⟩
 ·obtain rfl : lo = k := by omega
  by_cases hkn : lo < L.length
  ·have hx : L[lo]? = some L[lo] := List.getElem?_eq_getElem hkn
   have iu := cz (cx := C0) (e := 80) (h.toSub q1) bF (by omega) hx ag80 tW
   obtain ⟨v, T', ⟨rfl, ue⟩, e⟩ := (hc S' q1 L[lo] (List.getElem_mem hkn)).ex;have hfd : kG g L lo = decide (g L[lo] = 0) := by unfold kG; rw [hx]
   rw [hfd];simp [t0, t1, t2, t8, t9, t10, aL, -Int.natCast_add, u1, u2, uk, hkn, iu, e, aR f hf, q1.trans ue]
  ·have hfd : kG g L lo = false := by unfold kG; rw [List.getElem?_eq_none (by omega)]
   rw [hfd];simp [t0, t1, t2, t8, t9, t10, aL, -Int.natCast_add, u1, u2, uk, hkn, q1]
set_option maxRecDepth 20000 in
theorem BL {u : AV} {L : List ef} {one : ef} {k : Nat} (h : Sl S u 5 (L.flatMap bB)) (hb : L.length ≤ 4611686018427387904) (hk : Cut (fun x => iN x one) L k) :
  ai C0 29 [u, .agg (bB one), .func (.func 30) [] []] S fun v T => v = .tuple [.int .i64 k, .bool (kG (fun x => iN x one) L k)] ∧ Sub S T := by
 have u1 := h.sl;have u2 := h.aO bF (by omega)
 have uk := aW h;have hS : Sub S ⟨S.h.set S.next (.row (bB one) 0 0 false 80), S.next + 1⟩ := cS;have hold := h.old;refine ka (dm _) (dn _ rfl) fn29 rfl ok29 (by simp) fun F hn s0 s1 s2 => ?_
 rw [nt29] at hn;have uc := h.cells;simp [s0, s1, s2, u1, u2, uk, uc];refine aB (bsH ⟨S.h.set S.next (.row (bB one) 0 0 false 80), S.next + 1⟩ u (.func (.func 30) [] []) (.ptr S.next 0 0 5) 4 49 L.length k) L.length (sY 0 L.length (Sub.refl _) (by simp [s0]) (by simp [s2]) (by simp; rfl) (by simp) (by simp) (by simp) (Nat.zero_le _) hk.le (Nat.le_refl _) rfl (by simp [hn])) ?_
 rintro m F' S' df ⟨lo, hi, q1, t0, t2, t4, t8, t9, t10, q2, q3, q4, q5, fg⟩
 clear df hn s0 s1 s2;have gb : S'.h.get S.next = some (.row (bB one) 0 0 false 80) := by rw [q1.h _ (Nat.lt_succ_self _)]; exact aa _ _ _
 have lone : (bB one).length = 5 := rfl;have tone : (bB one).take 5 = bB one := rfl
 by_cases aL : lo < hi
 ·have hm : (lo + hi) / 2 < L.length := by omega
  obtain ⟨md, hmd⟩ : ∃ md, md = (lo + hi) / 2 := ⟨_, rfl⟩;rw [← hmd] at hm;have hx : L[md]? = some L[md] := List.getElem?_eq_getElem hm;have iu := cz (cx := C0) (e := 80) (h.toSub (hS.trans q1)) bF (by omega) hx ag80 tW
  obtain ⟨v, T', ⟨rfl, ue⟩, e⟩ := (order30 (S := S') L[md] one).ex;have hiff := hk.lt md _ hx;have w1 : IntKind.i64.wrap ((lo : Int) + (hi : Int)) = ((lo + hi : Nat) : Int) := by rw [show (lo : Int) + (hi : Int) = ((lo + hi : Nat) : Int) by omega]; exact ja (by omega)
  have w2 : IntKind.u64.wrap ((lo + hi : Nat) : Int) = ((lo + hi : Nat) : Int) := u64_nat (by omega)
  have w3 : ∀ t c, cK C0 .shr t c (.int .u64 ((lo + hi : Nat) : Int)) (.int .u64 1) = some (.int .u64 (md : Int)) := fun t c => by
   have := qF (lo + hi) 1 (by omega) t c
   rw [show (2 : Nat) ^ 1 = 2 from rfl, ← hmd] at this;exact this
  have w4 : IntKind.i64.wrap (md : Int) = (md : Int) := ja (by omega)
  have w5 := aN (i := md) (by omega)
  by_cases hg : iN L[md] one < 0
  ·simp [t0, t4, t2, t8, t9, t10, aL, -Int.natCast_add, w1, w2, w3, w4, w5, u1, u2, hm, iu, e, aR, fg]
   refine aA [.p, .p, .p, .p, .r 0 0, .r 0 0, .e [], .p] (n := 49) (by kernel_rfl) (by simp [fg]) ?_
   simp [t0, t4, t2, t8, t9, t10, aL, -Int.natCast_add, w1, w2, w3, w4, w5, u1, u2, hm, iu, e, aR, hg, gb, lone, tone];exact ⟨hi - (md + 1), by omega, sY (md + 1) hi (q1.trans ue) (by simp [t0]) (by simp [t2]) (by simp [t4]) (by simp [t8]) (by simp [w5, -Int.natCast_add]) (by simp [t10]) (by have := hiff.1 hg; omega) q3 q4 rfl (by simp [fg])⟩
  ·simp [t0, t4, t2, t8, t9, t10, aL, -Int.natCast_add, w1, w2, w3, w4, w5, u1, u2, hm, iu, e, aR, fg]
   refine aA [.p, .p, .p, .p, .r 0 0, .r 0 0, .e [], .p] (n := 49) (by kernel_rfl) (by simp [fg]) ?_
   simp [t0, t4, t2, t8, t9, t10, aL, -Int.natCast_add, w1, w2, w3, w4, w5, u1, u2, hm, iu, e, aR, hg, gb, lone, tone];exact ⟨md - lo, by omega, sY lo md (q1.trans ue) (by simp [t0]) (by simp [t2]) (by simp [t4]) (by simp [t8]) (by simp [t9]) (by simp) q2 (by have := fun h => hg (hiff.2 h); omega) (by omega) rfl (by simp [fg])⟩
 ·obtain rfl : lo = k := by omega
  by_cases hkn : lo < L.length
  ·have hx : L[lo]? = some L[lo] := List.getElem?_eq_getElem hkn
   have iu := cz (cx := C0) (e := 80) (h.toSub (hS.trans q1)) bF (by omega) hx ag80 tW
   obtain ⟨v, T', ⟨rfl, ue⟩, e⟩ := (order30 (S := S') L[lo] one).ex;have hfd : kG (fun x => iN x one) L lo = decide (iN L[lo] one = 0) := by unfold kG; rw [hx]
   rw [hfd];simp [t0, t4, t2, t8, t9, t10, aL, fg];refine aA [.p, .p, .p, .p, .p, .p, .p, .p, .p, .r 0 0, .r 0 0, .e [], .p, .p, .p, .p] (n := 49) (by kernel_rfl) (by simp [fg]) ?_
   simp [t0, t4, t2, t8, t9, t10, aL, -Int.natCast_add, u1, u2, uk, hkn, iu, e, aR, gb, lone, tone];exact (hS.trans q1).trans ue
  ·have hfd : kG (fun x => iN x one) L lo = false := by unfold kG; rw [List.getElem?_eq_none (by omega)]
   rw [hfd];simp [t0, t4, t2, t8, t9, t10, aL, fg];refine aA [.p, .p, .p, .p, .p, .p, .p, .p, .p, .r 0 0, .r 0 0, .e [], .p, .p, .p, .p] (n := 49) (by kernel_rfl) (by simp [fg]) ?_
   simp [t0, t4, t2, t8, t9, t10, aL, -Int.natCast_add, u1, u2, uk, hkn];exact hS.trans q1
end
theorem fn35 : C0.fns.get 35 = some Tryz.f35 := by kernel_rfl
theorem ok35 : codeOk C0 Tryz.f35.ntmps (Tryz.f35.body.getD .skip) = true := by kernel_rfl
@[simp] theorem sz86 : aw C0 86 = some 1 := by kernel_rfl
@[simp] theorem ze86 : zeroOf C0 86 = some (.jE) := by kernel_rfl
@[simp] theorem ag86 : aE C0 86 = some false := by kernel_rfl
@[simp] theorem fa54_1 : fieldAt C0 54 1 = some 1 := by kernel_rfl
theorem fn63 : C0.fns.get 63 = some Tryz.f63 := by kernel_rfl
theorem ok63 : codeOk C0 Tryz.f63.ntmps (Tryz.f63.body.getD .skip) = true := by kernel_rfl
@[simp] theorem fa50_0 : fieldAt C0 50 0 = some 0 := by kernel_rfl
@[simp] theorem fa54_2 : fieldAt C0 54 2 = some 2 := by kernel_rfl
theorem fn64 : C0.fns.get 64 = some Tryz.f64 := by kernel_rfl
theorem ok64 : codeOk C0 Tryz.f64.ntmps (Tryz.f64.body.getD .skip) = true := by kernel_rfl
theorem fn65 : C0.fns.get 65 = some Tryz.f65 := by kernel_rfl
theorem ok65 : codeOk C0 Tryz.f65.ntmps (Tryz.f65.body.getD .skip) = true := by kernel_rfl
theorem fn66 : C0.fns.get 66 = some Tryz.f66 := by kernel_rfl
theorem ok66 : codeOk C0 Tryz.f66.ntmps (Tryz.f66.body.getD .skip) = true := by kernel_rfl
theorem fn67 : C0.fns.get 67 = some Tryz.f67 := by kernel_rfl
theorem ok67 : codeOk C0 Tryz.f67.ntmps (Tryz.f67.body.getD .skip) = true := by kernel_rfl
@[simp] theorem fa50_2 : fieldAt C0 50 2 = some 2 := by kernel_rfl
theorem fn69 : C0.fns.get 69 = some Tryz.f69 := by kernel_rfl
theorem ok69 : codeOk C0 Tryz.f69.ntmps (Tryz.f69.body.getD .skip) = true := by kernel_rfl
theorem fn94 : C0.fns.get 94 = some Tryz.f94 := by kernel_rfl
theorem ok94 : codeOk C0 Tryz.f94.ntmps (Tryz.f94.body.getD .skip) = true := by kernel_rfl
section
variable {S : AS}
theorem kind63 (v : gN) (c : de) (b : Nat) (hb : S.h.get b = some (.row (bo c) 0 0 false 54)) (hl : b < S.next) : ai C0 63 [.agg (aS v), .ptr b 0 0 7] S fun r T => r = .bool (decide (c.val.kind ≤ v.kind)) ∧ Sub S T := by
 refine br (dm _) (dn _ rfl) fn63 rfl ok63 (by simp) fun F hn hs => ?_
 have s0 := hs 0;have s1 := hs 1;clear hs;simp only [List.getElem?_cons_zero, List.getElem?_cons_succ, Option.getD_some, aS, bo] at s0 s1 hb;simp [s0, s1, hb, aj hl, cS]
theorem zZ (v : gN) (c : de) (b : Nat) (hb : S.h.get b = some (.row (bo c) 0 0 false 54)) (hl : b < S.next) : ai C0 64 [.agg (aS v), .ptr b 0 0 7] S fun r T => r = .bool (decide (c.val.kind < v.kind)) ∧ Sub S T := by
 refine br (dm _) (dn _ rfl) fn64 rfl ok64 (by simp) fun F hn hs => ?_
 have s0 := hs 0;have s1 := hs 1;clear hs;simp only [List.getElem?_cons_zero, List.getElem?_cons_succ, Option.getD_some, aS, bo] at s0 s1 hb;simp [s0, s1, hb, aj hl, cS]
theorem vW (v : gN) (c : de) (b : Nat) (hb : S.h.get b = some (.row (bo c) 0 0 false 54)) (hl : b < S.next) : ai C0 65 [.agg (aS v), .ptr b 0 0 7] S fun r T => r = .bool (decide (0 ≤ cM v c.val)) ∧ Sub S T := by
 obtain ⟨r, T, ⟨rfl, hT⟩, e⟩ := (compare v c.val ⟨S.h.set S.next (.row (aS v) 0 0 false 50), S.next + 1⟩).ex;refine br (dm _) (dn _ rfl) fn65 rfl ok65 (by simp) fun F hn hs => ?_
 have s0 := hs 0;have s1 := hs 1;clear hs;simp only [List.getElem?_cons_zero, List.getElem?_cons_succ, Option.getD_some, aS, bo] at s0 s1 hb e hT;simp [s0, s1, hb, aj hl, e, aR];exact cS.trans hT
theorem Bf (v : gN) (c : de) (b : Nat) (hb : S.h.get b = some (.row (bo c) 0 0 false 54)) (hl : b < S.next) : ai C0 66 [.agg (aS v), .ptr b 0 0 7] S fun r T => r = .bool (decide (0 < cM v c.val)) ∧ Sub S T := by
 obtain ⟨r, T, ⟨rfl, hT⟩, e⟩ := (compare v c.val ⟨S.h.set S.next (.row (aS v) 0 0 false 50), S.next + 1⟩).ex;refine br (dm _) (dn _ rfl) fn66 rfl ok66 (by simp) fun F hn hs => ?_
 have s0 := hs 0;have s1 := hs 1;clear hs;simp only [List.getElem?_cons_zero, List.getElem?_cons_succ, Option.getD_some, aS, bo] at s0 s1 hb e hT;simp [s0, s1, hb, aj hl, e, aR];exact cS.trans hT
def tX (c : de) (v : gN) : Bool := decide (c.val.kind < v.kind) || (decide (0 ≤ cM v c.val) && !ie v.str c.val.str)
theorem out67 (v : gN) (c : de) (b p q : Nat) (hb : S.h.get b = some (.row (bo c) 0 0 false 54)) (hp : S.h.get p = some (.row [.func (.func 64) [] [.ptr b 0 0 7]] 0 0 false 86)) (hq : S.h.get q = some (.row [.func (.func 65) [] [.ptr b 0 0 7]] 0 0 false 86)) (hl : b < S.next) (hlp : p < S.next) (hlq : q < S.next) :
  ai C0 67 [.agg (aS v), .ptr p 0 0 1, .ptr q 0 0 1, .ptr b 0 0 7] S fun r T => r = .bool (tX c v) ∧ Sub S T := by
 have h1 : Sub S ⟨S.h.set S.next (.row (aS v) 0 0 false 50), S.next + 1⟩ := cS;obtain ⟨r, T, ⟨rfl, hT⟩, e⟩ := (zZ (S := ⟨S.h.set S.next (.row (aS v) 0 0 false 50), S.next + 1⟩) v c b (by rw [h1.h _ hl]; exact hb) (by show b < S.next + 1; omega)).ex
 have iv := h1.trans hT;have hTn := iv.next;obtain ⟨r, U, ⟨rfl, hU⟩, e2⟩ := (vW (S := T) v c b (by rw [iv.h _ hl]; exact hb) (by omega)).ex
 have hU1 := iv.trans hU;have g0 : T.h.get S.next = some (.row (aS v) 0 0 false 50) := by rw [hT.h _ (Nat.lt_succ_self _)]; exact aa _ _ _
 have g1 : U.h.get S.next = some (.row (aS v) 0 0 false 50) := by rw [hU.h _ (show S.next < T.next by have := hT.next; exact this)]; exact g0
 have bU : U.h.get b = some (.row (bo c) 0 0 false 54) := by rw [hU1.h _ hl]; exact hb
 have qT : T.h.get q = some (.row [.func (.func 65) [] [.ptr b 0 0 7]] 0 0 false 86) := by rw [iv.h _ hlq]; exact hq
 refine br (dm _) (dn _ rfl) fn67 rfl ok67 (by simp) fun F hn hs => ?_
 have s0 := hs 0;have s1 := hs 1;have s2 := hs 2;have s3 := hs 3;clear hs;simp only [List.getElem?_cons_zero, List.getElem?_cons_succ, Option.getD_some, aS, bo] at s0 s1 s2 s3 hb e hT e2 g0 g1 bU;unfold tX
 by_cases k1 : c.val.kind < v.kind
 ·simp [s0, s1, s2, s3, hp, aj hlp, e, aR, k1, iv]
 by_cases k2 : 0 ≤ cM v c.val
 ·simp [s0, s1, s2, s3, hp, aj hlp, e, e2, aR, k1, k2, g0, g1, qT, bU, zY, hU1]
 ·simp [s0, s1, s2, s3, hp, aj hlp, e, e2, aR, k1, k2, g0, g1, qT, bU, hU1]
def firI (is : gN → Bool) (x : ef) : Int := if is x.v = true then 1 else -1
theorem fir94 (x : ef) (f : FuncId) (caps : List AV) (is : gN → Bool) (b : Nat) (hf : (f == 132) = false) (hb : S.h.get b = some (.row [.func (.func f) [] caps] 0 0 false 86)) (hl : b < S.next)
  (hc : ∀ T, Sub S T → ai C0 f (.agg (aS x.v) :: caps) T fun r T' => r = .bool (is x.v) ∧ Sub T T') :
  ai C0 94 [.agg (bB x), .bool true, .ptr b 0 0 1] S fun r T => r = .int .i64 (firI is x) ∧ Sub S T := by
 have h1 : Sub S ⟨S.h.set S.next (.row (bB x) 0 0 false 80), S.next + 1⟩ := cS;obtain ⟨r, T, ⟨rfl, hT⟩, e⟩ := (hc _ h1).ex;refine br (dm _) (dn _ rfl) fn94 rfl ok94 (by simp) fun F hn hs => ?_
 have s0 := hs 0;have s1 := hs 1;have s2 := hs 2;clear hs;simp only [List.getElem?_cons_zero, List.getElem?_cons_succ, Option.getD_some, bB, aS, List.cons_append, List.nil_append] at s0 s1 s2 e hT h1;unfold firI
 cases hi : is x.v with
 | true =>
  rw [hi] at e;simp [s0, s1, s2, hb, aj hl, e, aR f hf, h1.trans hT]
 | false =>
  rw [hi] at e;simp [s0, s1, s2, hb, aj hl, e, aR f hf, h1.trans hT]
theorem first69 {u : AV} {L : List ef} {f : FuncId} {caps : List AV} {is : gN → Bool} {k : Nat} (h : Sl S u 5 (L.flatMap bB)) (hb : L.length ≤ 4611686018427387904) (hf : (f == 132) = false) (hk : Cut (firI is) L k)
  (re : cellsOf (.func (.func f) [] caps) = some [.func (.func f) [] caps])
  (hc : ∀ T, Sub S T → ∀ x : gN, ai C0 f (.agg (aS x) :: caps) T fun v T' => v = .bool (is x) ∧ Sub T T') :
  ai C0 69 [u, .func (.func f) [] caps] S fun v T => v = .int .i64 k ∧ Sub S T := by
 have h1 : Sub S ⟨S.h.set S.next (.row [.func (.func f) [] caps] 0 0 false 86), S.next + 1⟩ := cS;obtain ⟨r, T, ⟨rfl, hT⟩, e⟩ := (search93 (h.toSub h1) hb (f := 94) (caps := [.ptr S.next 0 0 1]) rfl hk (fun T hT x hx => fir94 x f caps is S.next hf (by rw [hT.h _ (Nat.lt_succ_self _)]; exact aa _ _ _) (by have := hT.next; exact this) (fun U hU => hc U ((h1.trans hT).trans hU) x.v))).ex
 refine cU (dm _) (dn _ rfl) fn69 rfl ok69 (by simp) fun F hn s0 s1 => ?_
 simp [s0, s1, re, e, aR, h1.trans hT]
end
structure lS {α : Type} (c : α → α → Int) : Prop where
 range : ∀ a b, c a b = -1 ∨ c a b = 0 ∨ c a b = 1
 xY : ∀ a b, c a b = - c b a
 trans : ∀ a b d, c a b ≤ 0 → c b d ≤ 0 → c a d = if c b d < c a b then c b d else c a b
theorem lS.self {α : Type} {c : α → α → Int} (h : lS c) (a : α) : c a a = 0 := by have := h.xY a a; omega
theorem lS.le {α : Type} {c : α → α → Int} (h : lS c) {a b d : α} (h1 : c a b ≤ 0) (h2 : c b d ≤ 0) : c a d ≤ 0 := by have := h.trans a b d h1 h2; split at this <;> omega
theorem lS.lt {α : Type} {c : α → α → Int} (h : lS c) {a b d : α} (h1 : c a b < 0) (h2 : c b d ≤ 0) : c a d < 0 := by have := h.trans a b d (by omega) h2; split at this <;> omega
theorem lS.lt' {α : Type} {c : α → α → Int} (h : lS c) {a b d : α} (h1 : c a b ≤ 0) (h2 : c b d < 0) : c a d < 0 := by have := h.trans a b d h1 (by omega); split at this <;> omega
theorem lS.Dh {α β : Type} {c : α → α → Int} (h : lS c) (f : β → α) : lS fun a b => c (f a) (f b) := ⟨fun _ _ => h.range _ _, fun _ _ => h.xY _ _, fun _ _ _ => h.trans _ _ _⟩
theorem lS.lex {α : Type} {c d : α → α → Int} (h : lS c) (k : lS d) : lS fun a b => if c a b = 0 then d a b else c a b := by
 refine ⟨fun a b => ?_, fun a b => ?_, fun a b e => ?_⟩
 ·split
  ·exact k.range _ _
  ·exact h.range _ _
 ·have h1 := h.xY a b
  have h2 := k.xY a b
  split <;> split <;> omega
 ·have a1 := h.range a b
  have a2 := h.range b e;have b1 := k.range a b;have b2 := k.range b e;have t1 := h.trans a b e;have t2 := k.trans a b e;intro q1 q2
  by_cases z1 : c a b = 0
  ·rw [if_pos z1] at q1 ⊢
   by_cases z2 : c b e = 0
   ·rw [if_pos z2] at q2 ⊢
    have := t1 (by omega) (by omega)
    rw [z1, z2] at this;simp at this;rw [if_pos this];exact t2 q1 q2
   ·rw [if_neg z2] at q2 ⊢
    have := t1 (by omega) (by omega)
    rw [if_pos (by omega)] at this
    rw [if_neg (by omega), this]
    split <;> omega
  ·rw [if_neg z1] at q1 ⊢
   by_cases z2 : c b e = 0
   ·rw [if_pos z2] at q2 ⊢
    have := t1 (by omega) (by omega)
    rw [if_neg (by omega)] at this
    rw [if_neg (by omega), this]
    split <;> omega
   ·rw [if_neg z2] at q2 ⊢
    have := t1 (by omega) (by omega)
    rw [if_neg (by omega)] at this
    rw [if_neg (by omega), this]
    split <;> omega
theorem sg : ∀ a b c : List Nat, gq a b = true → gq b c = true → gq a c = true
 | [], [], _, h, _ => by cases h
 | [], _ :: _, [], _, h => by cases h
 | [], _ :: _, _ :: _, _, _ => rfl
 | _ :: _, [], _, h, _ => by cases h
 | _ :: _, _ :: _, [], _, h => by cases h
 | x :: a, y :: b, z :: c, h1, h2 => by
  have e : ∀ (x y : Nat) (a b : List Nat), gq (x :: a) (y :: b) = cond (Nat.blt x y) true (cond (Nat.beq x y) (gq a b) false) := fun _ _ _ _ => rfl
  rw [e, fI, aK] at h1 h2 ⊢;have ih := sg a b c
  by_cases h3 : x < y
  ·by_cases h4 : y < z
   ·have : x < z := by omega
    simp [this]
   ·by_cases h5 : y = z
    ·subst h5; simp [h3]
    ·simp [h4, h5] at h2
  ·by_cases h6 : x = y
   ·subst h6
    simp [h3] at h1
    by_cases h4 : x < z
    ·simp [h4]
    ·by_cases h5 : x = z
     ·subst h5
      simp [h4] at h2;simp [ih h1 h2]
     ·simp [h4, h5] at h2
   ·simp [h3, h6] at h1
theorem oE (a : List Nat) : gq a a = false := by
 have h := oD a a;rw [v8] at h
 cases hl : gq a a
 ·rfl
 ·rw [hl] at h; cases h
theorem lt_tri (a b : List Nat) : (gq a b = true ∧ a ≠ b ∧ gq b a = false) ∨ (gq a b = false ∧ a = b ∧ gq b a = false) ∨ (gq a b = false ∧ a ≠ b ∧ gq b a = true) := by
 have h := oD a b;rw [fy] at h
 by_cases e : a = b
 ·subst e
  exact .inr (.inl ⟨oE a, rfl, oE a⟩)
 ·rw [decide_eq_false e, Bool.or_false] at h
  cases h1 : gq a b
  ·rw [h1] at h
   refine .inr (.inr ⟨rfl, e, ?_⟩)
   cases h2 : gq b a
   ·rw [h2] at h; cases h
   ·rfl
  ·rw [h1] at h
   refine .inl ⟨rfl, e, ?_⟩
   cases h2 : gq b a
   ·rfl
   ·rw [h2] at h; cases h
theorem lO : lS iD := by
 refine ⟨fun a b => ?_, fun a b => ?_, fun a b c h1 h2 => ?_⟩
 ·unfold iD; split <;> (try split) <;> simp
 ·unfold iD
  by_cases h1 : a < b
  ·have : ¬ b < a := by omega
   simp [h1, this]
  ·by_cases h2 : b < a <;> simp [h1, h2]
 ·unfold iD at *
  repeat' split at h1
  all_goals repeat' split at h2
  all_goals repeat' split
  all_goals omega
theorem cmpI_zero (a b : Int) : iD a b = 0 ↔ a = b := by
 unfold iD
 by_cases h1 : a < b
 ·have : a ≠ b := by omega
  simp [h1, this]
 ·by_cases h2 : b < a
  ·have : a ≠ b := by omega
   simp [h1, h2, this]
  ·have : a = b := by omega
   simp [this]
theorem ke (a b : List Nat) : kf a b = -1 ↔ gq a b = true := by
 unfold kf
 cases gq a b <;> cases fX a b <;> simp
theorem sU (a b : List Nat) : kf a b = 0 ↔ a = b := by
 unfold kf;rw [fy];rcases lt_tri a b with ⟨h1, h2, h3⟩ | ⟨h1, h2, h3⟩ | ⟨h1, h2, h3⟩
 ·simp [h1, h2]
 ·subst h2; simp [h1]
 ·simp [h1, h2]
theorem ru : lS kf := by
 have rg : ∀ a b, kf a b = -1 ∨ kf a b = 0 ∨ kf a b = 1 := fun a b => by unfold kf; cases gq a b <;> cases fX a b <;> simp
 refine ⟨rg, fun a b => ?_, fun a b c h1 h2 => ?_⟩
 ·unfold kf
  rw [fy, fy];rcases lt_tri a b with ⟨h1, h2, h3⟩ | ⟨h1, h2, h3⟩ | ⟨h1, h2, h3⟩
  ·have h4 : ¬ b = a := fun e => h2 e.symm
   simp [h1, h3, h4]
  ·subst h2; simp [h1]
  ·simp [h1, h3, h2]
 ·rcases rg a b with e1 | e1 | e1
  ·rcases rg b c with e2 | e2 | e2
   ·rw [e1, e2, (ke a c).2 (sg a b c ((ke a b).1 e1) ((ke b c).1 e2))]; rfl
   ·rw [← (sU b c).1 e2, e1, (sU b b).2 rfl]; rfl
   ·omega
  ·have := (sU a b).1 e1
   subst this;rw [e1];rcases rg a c with e2 | e2 | e2 <;> rw [e2] at h2 ⊢ <;> first | rfl | omega
  ·omega
def rv (k : Int) (a b : gN) : Int := if k = 1 then iD a.num b.num else if k = 2 then kf a.str b.str else if k = 3 then iD (pz a.bool) (pz b.bool) else 0
theorem nX (k : Int) : lS (rv k) := by
 by_cases h1 : k = 1
 ·have e : rv k = fun a b => iD a.num b.num := by funext a b; simp [rv, h1]
  rw [e]; exact lO.Dh gN.num
 by_cases h2 : k = 2
 ·have e : rv k = fun a b => kf a.str b.str := by funext a b; simp [rv, h2]
  rw [e]; exact ru.Dh gN.str
 by_cases h3 : k = 3
 ·have e : rv k = fun a b => iD (pz a.bool) (pz b.bool) := by funext a b; simp [rv, h3]
  rw [e]; exact lO.Dh fun v : gN => pz v.bool
 ·have e : rv k = fun a b => 0 := by funext a b; simp [rv, h1, h2, h3]
  rw [e];exact ⟨fun _ _ => .inr (.inl rfl), fun _ _ => rfl, fun _ _ _ _ _ => rfl⟩
theorem eC {a b : gN} (h : a.kind = b.kind) : cM a b = rv a.kind a b := by
 unfold cM rv;simp [h]
theorem iT {a b : gN} (h : a.kind ≠ b.kind) : cM a b = iD a.kind b.kind := by
 unfold cM;rw [if_pos h]
theorem uM {a b : gN} (h : a.kind < b.kind) : cM a b = -1 := by
 rw [iT (by omega)]; unfold iD; rw [if_pos h]
theorem uN {a b : gN} (h : b.kind < a.kind) : cM a b = 1 := by
 rw [iT (by omega)]; unfold iD; rw [if_neg (by omega), if_pos h]
theorem rq : lS cM := by
 refine ⟨fun a b => ?_, fun a b => ?_, fun a b d h1 h2 => ?_⟩
 ·by_cases h : a.kind = b.kind
  ·rw [eC h]; exact (nX _).range _ _
  ·rw [iT h]; exact lO.range _ _
 ·by_cases h : a.kind = b.kind
  ·rw [eC h, eC h.symm, h]; exact (nX _).xY _ _
  ·rw [iT h, iT (fun e => h e.symm)]; exact lO.xY _ _
 ·have qz : a.kind ≤ b.kind := by
   rcases (show b.kind < a.kind ∨ a.kind ≤ b.kind by omega) with h | h
   ·rw [uN h] at h1; omega
   ·exact h
  have xa : b.kind ≤ d.kind := by
   rcases (show d.kind < b.kind ∨ b.kind ≤ d.kind by omega) with h | h
   ·rw [uN h] at h2; omega
   ·exact h
  by_cases e1 : a.kind = b.kind
  ·by_cases e2 : b.kind = d.kind
   ·rw [eC e1] at h1 ⊢
    rw [eC e2, ← e1] at h2 ⊢;rw [eC (e1.trans e2)];exact (nX _).trans _ _ _ h1 h2
   ·rw [uM (a := b) (b := d) (by omega), uM (a := a) (b := d) (by omega)]
    have := (nX a.kind).range a b;rw [eC e1]
    split <;> omega
  ·rw [uM (a := a) (b := b) (by omega), uM (a := a) (b := d) (by omega)]
   split
   ·rename_i hh
    have hr : cM b d = -1 ∨ cM b d = 0 ∨ cM b d = 1 := by
     by_cases h : b.kind = d.kind
     ·rw [eC h]; exact (nX _).range _ _
     ·rw [iT h]; exact lO.range _ _
    omega
   ·rfl
theorem jX : lS iN := (rq.Dh ef.v).lex (lO.Dh fun e : ef => (e.n : Int))
theorem ordE_v {a b : ef} (h : iN a b ≤ 0) : cM a.v b.v ≤ 0 := by
 unfold iN at h
 split at h <;> omega
theorem prefB_nil (a : List Nat) : ie a [] = true := by
 unfold ie;simp [fy]
theorem vg (x y : Nat) (a b : List Nat) : ie (x :: a) (y :: b) = (decide (x = y) && ie a b) := by
 unfold ie;simp only [fy, List.length_cons, List.take_succ_cons, List.cons.injEq]
 by_cases h : x = y <;> by_cases h2 : b.length ≤ a.length <;> simp [h, h2]
theorem Cb (y : Nat) (b : List Nat) : ie [] (y :: b) = false := by
 unfold ie;simp
theorem Cq (x y : Nat) (a b : List Nat) : gq (x :: a) (y :: b) = cond (decide (x < y)) true (cond (decide (x = y)) (gq a b) false) := by
 have e : gq (x :: a) (y :: b) = cond (Nat.blt x y) true (cond (Nat.beq x y) (gq a b) false) := rfl;rw [e, fI, aK]
theorem pref_ge : ∀ (w p : List Nat), ie w p = true → gq w p = false
 | w, [], _ => by cases w <;> rfl
 | [], y :: b, h => by rw [Cb] at h; cases h
 | x :: a, y :: b, h => by
  rw [vg] at h;simp at h;obtain ⟨rfl, h⟩ := h;rw [Cq];simp [pref_ge a b h]
theorem Ca : ∀ (v w p : List Nat), ie w p = true → gq v p = false → gq w v = false → ie v p = true
 | v, w, [], _, _, _ => prefB_nil v
 | [], w, y :: b, _, h, _ => by
  have : gq [] (y :: b) = true := rfl;rw [this] at h; cases h
 | x :: a, [], y :: b, h, _, _ => by rw [Cb] at h; cases h
 | x :: a, z :: w, y :: b, h1, h2, h3 => by
  rw [vg] at h1 ⊢;simp at h1;obtain ⟨rfl, h1⟩ := h1;rw [Cq] at h2 h3
  by_cases e : x = z
  ·subst e
   simp at h2 h3 ⊢;exact Ca a w b h1 h2 h3
  ·by_cases e2 : x < z
   ·simp [e2] at h2
   ·have e3 : z < x := by omega
    simp [e3] at h3
def fK {α : Type} (is : α → Bool) (L : List α) : Nat := (L.takeWhile fun x => !is x).length
theorem dq {α : Type} (is : α → Bool) : ∀ L : List α, fK is L ≤ L.length
 | [] => by simp [fK]
 | x :: L => by
  have := dq is L;unfold fK at this ⊢
  cases h : is x <;> simp [h] <;> omega
theorem rn {α : Type} (is : α → Bool) : ∀ (L : List α), L.Pairwise (fun x y => is x = true → is y = true) → ∀ i x, L[i]? = some x → (is x = false ↔ i < fK is L)
 | [], _, i, x, h => by simp at h
 | z :: L, hp, i, x, h => by
  obtain ⟨h1, h2⟩ := List.pairwise_cons.1 hp;have ih := rn is L h2;unfold fK at ih ⊢
  cases hz : is z with
  | true =>
   simp [hz]
   cases i with
   | zero => simp at h; subst h; exact hz
   | succ i => exact h1 x (List.mem_of_getElem? (by simpa using h)) hz
  | false =>
   simp [hz]
   cases i with
   | zero => simp at h; subst h; simp [hz]
   | succ i =>
    have := ih i x (by simpa using h)
    rw [this]; omega
theorem ze {α : Type} {is is' : α → Bool} (h : ∀ x, is' x = true → is x = true) : ∀ L : List α, fK is L ≤ fK is' L
 | [] => Nat.le_refl _
 | x :: L => by
  have ih := ze h L;have hx := h x;unfold fK at ih ⊢
  cases h1 : is x <;> cases h2 : is' x <;> simp [h1, h2] at hx ⊢
  omega
theorem Cut.of {α : Type} {g : α → Int} {L : List α} (h : L.Pairwise fun x y => 0 ≤ g x → 0 ≤ g y) : Cut g L (fK (fun x => decide (0 ≤ g x)) L) := by
 refine ⟨dq _ _, fun i x hx => ?_⟩
 have := rn (fun x => decide (0 ≤ g x)) L (h.imp fun h => by simpa using h) i x hx
 simp at this;exact this
theorem CW {is : gN → Bool} {L : List ef} (h : L.Pairwise fun x y => is x.v = true → is y.v = true) : Cut (firI is) L (fK (fun x => is x.v) L) := by
 refine ⟨dq _ _, fun i x hx => ?_⟩
 have := rn (fun x : ef => is x.v) L h i x hx
 rw [← this];unfold firI
 cases is x.v <;> simp
def jz (L : List ef) : Prop := L.Pairwise fun a b => iN a b < 0
theorem jz.cut {L : List ef} (h : jz L) (one : ef) : Cut (fun x => iN x one) L (fK (fun x => decide (0 ≤ iN x one)) L) := by
 refine Cut.of (h.imp fun {a b} qz h0 => ?_)
 rcases (show iN b one < 0 ∨ 0 ≤ iN b one by omega) with hh | hh
 ·have := jX.lt qz (Int.le_of_lt hh); omega
 ·exact hh
theorem nt35 : Tryz.f35.ntmps = 51 := by kernel_rfl
def ff (c : de) (v : gN) : Bool := decide (c.val.kind ≤ v.kind)
def fu (c : de) (v : gN) : Bool := decide (c.val.kind < v.kind)
def dF (c : de) (v : gN) : Bool := decide (0 ≤ cM v c.val)
def dz (c : de) (v : gN) : Bool := decide (0 < cM v c.val)
theorem uA {a b : gN} (h : cM a b ≤ 0) : a.kind ≤ b.kind := by
 rcases (show b.kind < a.kind ∨ a.kind ≤ b.kind by omega) with k | k
 ·rw [uN k] at h; omega
 ·exact k
theorem jM (c : de) : ∀ a b, cM a b ≤ 0 → ff c a = true → ff c b = true := fun a b h k => by
 have := uA h;simp only [ff, decide_eq_true_eq] at *; omega
theorem jL (c : de) : ∀ a b, cM a b ≤ 0 → fu c a = true → fu c b = true := fun a b h k => by
 have := uA h;simp only [fu, decide_eq_true_eq] at *; omega
theorem fJ (c : de) : ∀ a b, cM a b ≤ 0 → dF c a = true → dF c b = true := fun a b h k => by
 simp only [dF, decide_eq_true_eq] at *;rcases (show cM b c.val < 0 ∨ 0 ≤ cM b c.val by omega) with q | q
 ·have := rq.lt' h q; omega
 ·exact q
theorem iV (c : de) : ∀ a b, cM a b ≤ 0 → dz c a = true → dz c b = true := fun a b h k => by
 simp only [dz, decide_eq_true_eq] at *;rcases (show cM b c.val ≤ 0 ∨ 0 < cM b c.val by omega) with q | q
 ·have := rq.le h q; omega
 ·exact q
theorem oM (c : de) : ∀ v, dF c v = true → ff c v = true := fun v h => by
 simp only [dF, ff, decide_eq_true_eq] at *;exact uA (by have := rq.xY v c.val; omega)
theorem qq (c : de) : ∀ v, dz c v = true → dF c v = true := fun v h => by simp only [dF, dz, decide_eq_true_eq] at *; omega
theorem above_kind (c : de) : ∀ v, dz c v = true → ff c v = true := fun v h => oM c v (qq c v h)
theorem past_kind (c : de) : ∀ v, fu c v = true → ff c v = true := fun v h => by simp only [fu, ff, decide_eq_true_eq] at *; omega
theorem vi (c : de) : ∀ v, fu c v = true → dz c v = true := fun v h => by
 simp only [fu, dz, decide_eq_true_eq] at *;rw [uN h]; omega
theorem yy (c : de) : ∀ v, fu c v = true → dF c v = true := fun v h => qq c v (vi c v h)
theorem vm (c : de) : ∀ v, tX c v = true → dF c v = true := fun v h => by
 unfold tX at h;rw [Bool.or_eq_true] at h;rcases h with h | h
 ·exact yy c v h
 ·rw [Bool.and_eq_true] at h; exact h.1
theorem Cj {c : de} (hk : c.val.kind = 2) : ∀ a b, cM a b ≤ 0 → tX c a = true → tX c b = true := fun a b h k => by
 have hf := fJ c a b h (vm c a k);have hkb := oM c b hf;have hka := oM c a (vm c a k);have qz := uA h;unfold tX at k ⊢;simp only [ff, decide_eq_true_eq, hk] at hka hkb
 by_cases h2 : 2 < b.kind
 ·simp [hk, h2]
 ·have pe : b.kind = 2 := by omega
  have ha2 : a.kind = 2 := by omega
  simp only [dF, decide_eq_true_eq] at hf;simp [hk, pe, ha2] at k ⊢;refine ⟨hf, ?_⟩
  cases hp : ie b.str c.val.str with
  | false => rfl
  | true =>
   have e1 : cM a c.val = kf a.str c.val.str := by rw [eC (by rw [ha2, hk]), ha2]; simp [rv]
   have e2 : cM a b = kf a.str b.str := by rw [eC (by rw [ha2, pe]), ha2]; simp [rv]
   have l1 : gq a.str c.val.str = false := by
    cases hl : gq a.str c.val.str with
    | false => rfl
    | true => have := (ke _ _).2 hl; omega
   have l2 : gq b.str a.str = false := by
    cases hl : gq b.str a.str with
    | false => rfl
    | true =>
     have := (ke _ _).2 hl;have := ru.xY a.str b.str;omega
   rw [Ca _ _ _ hp l1 l2] at k;exact absurd k.2 (by simp)
theorem vD {c : de} (hm : m6 c = true) (o8 : c.op = 8) : c.val.kind = 2 := by
 unfold m6 at hm
 split at hm
 ·cases hm
 split at hm
 ·cases hm
 simp [o8] at hm;exact hm.2.1
section
variable {c : de}
theorem out_2 (o : c.op = 2) : ∀ v, aY c v = true → dF c v = true ∧ dz c v = false := fun v h => by
 unfold aY at h;simp [o] at h;simp [dF, dz, h.2]
theorem out_3 (o : c.op = 3) : ∀ v, aY c v = true → ff c v = true ∧ fu c v = false := fun v h => by
 unfold aY at h;simp [o] at h;simp [ff, fu, h.1]
theorem out_4 (o : c.op = 4) : ∀ v, aY c v = true → ff c v = true ∧ dF c v = false := fun v h => by
 unfold aY at h;simp [o] at h;simp [ff, dF, h.1];omega
theorem out_5 (o : c.op = 5) : ∀ v, aY c v = true → ff c v = true ∧ dz c v = false := fun v h => by
 unfold aY at h;simp [o] at h;simp [ff, dz, h.1];omega
theorem out_6 (o : c.op = 6) : ∀ v, aY c v = true → dz c v = true ∧ fu c v = false := fun v h => by
 unfold aY at h;simp [o] at h;simp [fu, dz, h.1, h.2]
theorem out_7 (o : c.op = 7) : ∀ v, aY c v = true → dF c v = true ∧ fu c v = false := fun v h => by
 unfold aY at h;simp [o] at h;simp [fu, dF, h.1, h.2]
theorem out_8 (o : c.op = 8) (hk : c.val.kind = 2) : ∀ v, aY c v = true → dF c v = true ∧ tX c v = false := fun v h => by
 unfold aY at h;simp [o, hk] at h;have e1 : cM v c.val = kf v.str c.val.str := by rw [eC (by rw [h.1, hk]), h.1]; simp [rv]
 have l1 := pref_ge _ _ h.2;refine ⟨?_, ?_⟩
 ·simp only [dF, decide_eq_true_eq]
  rcases ru.range v.str c.val.str with q | q | q
  ·rw [(ke _ _).1 q] at l1; cases l1
  ·omega
  ·omega
 ·simp [tX, hk, h.1, h.2]
end
theorem pw_of {L : List ef} {is : gN → Bool} (hr : jz L) (hm : ∀ a b, cM a b ≤ 0 → is a = true → is b = true) : L.Pairwise fun x y => is x.v = true → is y.v = true := hr.imp fun h => hm _ _ (ordE_v (by omega))
def Held (T : AS) (L : List ef) (c : de) (r : AV) : Prop :=
 ∃ lo hi, lo ≤ hi ∧ hi ≤ L.length ∧ Sl T r 5 (((L.drop lo).take (hi - lo)).flatMap bB) ∧ ∀ i x, L[i]? = some x → (i < lo ∨ hi ≤ i) → aY c x.v = false
section
variable {S : AS}
def jF (S : AS) (c : de) : AS := ⟨((((S.h.set S.next (.row (bo c) 0 0 false 54)).set (S.next + 1) (.row [.jE] 0 0 false 86)).set (S.next + 1) (.row [.func (.func 64) [] [.ptr S.next 0 0 7]] 0 0 false 86)).set (S.next + 2) (.row [.jE] 0 0 false 86)).set (S.next + 2) (.row [.func (.func 65) [] [.ptr S.next 0 0 7]] 0 0 false 86), S.next + 1 + 2⟩
theorem hX (S : AS) (c : de) : Sub S (jF S c) :=
 ((((cS (S := S)).set _ _ (Nat.le_succ _) _ (Nat.le_succ (S.next + 1))).set _ _ (Nat.le_succ _) _ (Nat.le_refl _)).set _ _ (Nat.le_add_right _ _) _ (Nat.le_succ (S.next + 2))).set _ _ (Nat.le_add_right _ _) _ (Nat.le_refl _)
theorem ij {c : de} {U : AS} (h : Sub (jF S c) U) : U.h.get S.next = some (.row (bo c) 0 0 false 54) := by
 rw [h.h _ (by show S.next < S.next + 1 + 2; omega)]
 unfold jF;simp only [ae _ _ (show S.next ≠ S.next + 2 by omega), ae _ _ (show S.next ≠ S.next + 1 by omega)]
 exact aa _ _ _
theorem memC_1 {c : de} {U : AS} (h : Sub (jF S c) U) : U.h.get (S.next + 1) = some (.row [.func (.func 64) [] [.ptr S.next 0 0 7]] 0 0 false 86) := by
 rw [h.h _ (by show S.next + 1 < S.next + 1 + 2; omega)]
 unfold jF;simp only [ae _ _ (show S.next + 1 ≠ S.next + 2 by omega)]
 exact aa _ _ _
theorem memC_2 {c : de} {U : AS} (h : Sub (jF S c) U) : U.h.get (S.next + 2) = some (.row [.func (.func 65) [] [.ptr S.next 0 0 7]] 0 0 false 86) := by
 rw [h.h _ (by show S.next + 2 < S.next + 1 + 2; omega)]
 unfold jF;exact aa _ _ _
theorem eg {c : de} {U : AS} (h : Sub (jF S c) U) : S.next < U.next ∧ S.next + 1 < U.next ∧ S.next + 2 < U.next := by
 have : S.next + 1 + 2 ≤ U.next := h.next;omega
theorem qb {M : AS} {u : AV} {L : List ef} (h : Sl S u 5 (L.flatMap bB)) (hr : jz L) (hb : L.length ≤ 4611686018427387904) (hM : Sub S M) {fL fH : FuncId} {cL cH : List AV} (low high : gN → Bool) (hfL : (fL == 132) = false) (hfH : (fH == 132) = false)
  (kL : cellsOf (.func (.func fL) [] cL) = some [.func (.func fL) [] cL]) (kH : cellsOf (.func (.func fH) [] cH) = some [.func (.func fH) [] cH])
  (hcL : ∀ T, Sub M T → ∀ x : gN, ai C0 fL (.agg (aS x) :: cL) T fun v T' => v = .bool (low x) ∧ Sub T T')
  (hcH : ∀ T, Sub M T → ∀ x : gN, ai C0 fH (.agg (aS x) :: cH) T fun v T' => v = .bool (high x) ∧ Sub T T')
  (mL : ∀ a b, cM a b ≤ 0 → low a = true → low b = true) (mH : ∀ a b, cM a b ≤ 0 → high a = true → high b = true) (hi : ∀ v, high v = true → low v = true) :
  ∃ T1 T2, Sub S T2 ∧ (∀ Q, ai C0 69 [u, .func (.func fL) [] cL] M Q = Q (.int .i64 (fK (fun x : ef => low x.v) L : Int)) T1) ∧
   (∀ Q, ai C0 69 [u, .func (.func fH) [] cH] T1 Q = Q (.int .i64 (fK (fun x : ef => high x.v) L : Int)) T2) ∧ fK (fun x : ef => low x.v) L ≤ fK (fun x : ef => high x.v) L := by
 obtain ⟨r1, T1, ⟨rfl, h1⟩, e1⟩ := (first69 (h.toSub hM) hb hfL (CW (pw_of hr mL)) kL hcL).ex;obtain ⟨r2, T2, ⟨rfl, h2⟩, e2⟩ := (first69 (h.toSub (hM.trans h1)) hb hfH (CW (pw_of hr mH)) kH (fun T hT x => hcH T (h1.trans hT) x)).ex
 exact ⟨T1, T2, (hM.trans h1).trans h2, e1, e2, ze (fun x hx => hi x.v hx) L⟩
theorem j7 {u : AV} {L : List ef} {T : AS} {c : de} {low high : gN → Bool} (h : Sl S u 5 (L.flatMap bB)) (hT : Sub S T) (hle : fK (fun x : ef => low x.v) L ≤ fK (fun x : ef => high x.v) L) (hu : sLen u = L.length) (hr : jz L)
  (mL : ∀ a b, cM a b ≤ 0 → low a = true → low b = true) (mH : ∀ a b, cM a b ≤ 0 → high a = true → high b = true) (ho : ∀ v, aY c v = true → low v = true ∧ high v = false) :
  Held T L c (oU u (fK (fun x : ef => low x.v) L) (fK (fun x : ef => high x.v) L)) := by
 refine ⟨_, _, hle, dq _ _, ?_, fun i x hx hi => ?_⟩
 ·have := (h.toSub hT).cut hle (by rw [hu]; exact dq _ _)
  rw [mz bF, mw bF] at this;exact this
 ·cases hh : aY c x.v with
  | false => rfl
  | true =>
   obtain ⟨h1, h2⟩ := ho _ hh;rcases hi with hi | hi
   ·have := (rn (fun x : ef => low x.v) L (pw_of hr mL) i x hx).2 hi
    rw [h1] at this; cases this
   ·have := (rn (fun x : ef => high x.v) L (pw_of hr mH) i x hx).1 h2
    omega
set_option maxRecDepth 20000 in
set_option maxHeartbeats 4000000 in
theorem hold35 {u : AV} {L : List ef} {c : de} (h : Sl S u 5 (L.flatMap bB)) (hc : kC S c) (hr : jz L) (hb : L.length ≤ 4611686018427387904) (hm : m6 c = true) :
  ai C0 35 [u, .agg (bo c)] S fun r T => Sub S T ∧ Held T L c r := by
 have u1 := h.sl;have u2 := h.aO bF (by omega)
 have uk := aW h;have un := h.np;refine br (dm _) (dn _ rfl) fn35 rfl ok35 (by simp) fun F hn hs => ?_
 rw [nt35] at hn;have s0 := hs 0;have s1 := hs 1;clear hs;simp only [List.getElem?_cons_zero, List.getElem?_cons_succ, Option.getD_some, bo] at s0 s1;have gS : ∀ T, Sub S T → Held T L c u := fun T hT => ⟨0, L.length, Nat.zero_le _, Nat.le_refl _, by rw [List.drop_zero, Nat.sub_zero, List.take_length]; exact h.toSub hT, fun i x hx hi => by
  have := (List.getElem?_eq_some_iff.1 hx).1;omega⟩
 by_cases o1 : c.op = 1
 ·have hT := hX S c
  simp only [jF, bo, o1] at hT;simp only [o1] at s0 s1;simp [s0, s1, hn];refine aA [.p, .r 0 0, .p, .p] (n := 51) (by kernel_rfl) (by simp [hn]) ?_
  simp [s0, s1, hn, uk, un];exact ⟨hT, gS _ hT⟩
 by_cases o9 : c.op = 9
 ·have hT := hX S c
  simp only [jF, bo, o9] at hT;simp only [o9] at s0 s1;simp [s0, s1, hn];refine aA [.p, .r 0 0, .p, .p] (n := 51) (by kernel_rfl) (by simp [hn]) ?_
  simp [s0, s1, hn, uk, un];exact ⟨hT, gS _ hT⟩
 by_cases o2 : c.op = 2
 ·obtain ⟨T1, T2, iH, e1, e2, e3⟩ := qb (S := S) (M := jF S c) h hr hb (hX S c) (fL := 65) (fH := 66) (cL := [.ptr S.next 0 0 7]) (cH := [.ptr S.next 0 0 7]) (dF c) (dz c) rfl rfl rfl rfl
   (fun U hU x => vW x c S.next (ij hU) (eg hU).1)
   (fun U hU x => Bf x c S.next (ij hU) (eg hU).1)
   (fJ c) (iV c) (qq c)
  have gr : ∀ v, aY c v = true → dF c v = true ∧ dz c v = false := out_2 o2;have yV := h.cut e3 (by rw [u2]; exact dq _ _)
  simp only [jF, bo, o2] at e1 e2;simp only [o2] at s0 s1;simp [s0, s1, hn];refine aA [.p, .r 0 0, .p, .p] (n := 51) (by kernel_rfl) (by simp [hn]) ?_
  have uD := fun (F : Fr) (h1 : sl F 46 = .int .i64 (fK (fun x => dF c x.v) L : Int)) (h2 : sl F 49 = .int .i64 (fK (fun x => dz c x.v) L : Int)) => dh (cx := C0) (F := F) (lo := some (.tmp 46)) (hi := some (.tmp 49)) xe u1 (by rw [az, ay, h1, aM]) (by rw [az, ay, h2, aM]) e3 (by rw [u2]; exact dq _ _)
  simp [s0, s1, hn, aR, e1, e2, uD, yV.np, aW yV];exact ⟨iH, j7 h iH e3 u2 hr (fJ c) (iV c) gr⟩
 by_cases o3 : c.op = 3
 ·obtain ⟨T1, T2, iH, e1, e2, e3⟩ := qb (S := S) (M := jF S c) h hr hb (hX S c) (fL := 63) (fH := 64) (cL := [.ptr S.next 0 0 7]) (cH := [.ptr S.next 0 0 7]) (ff c) (fu c) rfl rfl rfl rfl
   (fun U hU x => kind63 x c S.next (ij hU) (eg hU).1)
   (fun U hU x => zZ x c S.next (ij hU) (eg hU).1)
   (jM c) (jL c) (past_kind c)
  have gr : ∀ v, aY c v = true → ff c v = true ∧ fu c v = false := out_3 o3;have yV := h.cut e3 (by rw [u2]; exact dq _ _)
  simp only [jF, bo, o3] at e1 e2;simp only [o3] at s0 s1;simp [s0, s1, hn];refine aA [.p, .r 0 0, .p, .p] (n := 51) (by kernel_rfl) (by simp [hn]) ?_
  have uD := fun (F : Fr) (h1 : sl F 46 = .int .i64 (fK (fun x => ff c x.v) L : Int)) (h2 : sl F 49 = .int .i64 (fK (fun x => fu c x.v) L : Int)) => dh (cx := C0) (F := F) (lo := some (.tmp 46)) (hi := some (.tmp 49)) xe u1 (by rw [az, ay, h1, aM]) (by rw [az, ay, h2, aM]) e3 (by rw [u2]; exact dq _ _)
  simp [s0, s1, hn, aR, e1, e2, uD, yV.np, aW yV];exact ⟨iH, j7 h iH e3 u2 hr (jM c) (jL c) gr⟩
 by_cases o4 : c.op = 4
 ·obtain ⟨T1, T2, iH, e1, e2, e3⟩ := qb (S := S) (M := jF S c) h hr hb (hX S c) (fL := 63) (fH := 65) (cL := [.ptr S.next 0 0 7]) (cH := [.ptr S.next 0 0 7]) (ff c) (dF c) rfl rfl rfl rfl
   (fun U hU x => kind63 x c S.next (ij hU) (eg hU).1)
   (fun U hU x => vW x c S.next (ij hU) (eg hU).1)
   (jM c) (fJ c) (oM c)
  have gr : ∀ v, aY c v = true → ff c v = true ∧ dF c v = false := out_4 o4;have yV := h.cut e3 (by rw [u2]; exact dq _ _)
  simp only [jF, bo, o4] at e1 e2;simp only [o4] at s0 s1;simp [s0, s1, hn];refine aA [.p, .r 0 0, .p, .p] (n := 51) (by kernel_rfl) (by simp [hn]) ?_
  have uD := fun (F : Fr) (h1 : sl F 46 = .int .i64 (fK (fun x => ff c x.v) L : Int)) (h2 : sl F 49 = .int .i64 (fK (fun x => dF c x.v) L : Int)) => dh (cx := C0) (F := F) (lo := some (.tmp 46)) (hi := some (.tmp 49)) xe u1 (by rw [az, ay, h1, aM]) (by rw [az, ay, h2, aM]) e3 (by rw [u2]; exact dq _ _)
  simp [s0, s1, hn, aR, e1, e2, uD, yV.np, aW yV];exact ⟨iH, j7 h iH e3 u2 hr (jM c) (fJ c) gr⟩
 by_cases o5 : c.op = 5
 ·obtain ⟨T1, T2, iH, e1, e2, e3⟩ := qb (S := S) (M := jF S c) h hr hb (hX S c) (fL := 63) (fH := 66) (cL := [.ptr S.next 0 0 7]) (cH := [.ptr S.next 0 0 7]) (ff c) (dz c) rfl rfl rfl rfl
   (fun U hU x => kind63 x c S.next (ij hU) (eg hU).1)
   (fun U hU x => Bf x c S.next (ij hU) (eg hU).1)
   (jM c) (iV c) (above_kind c)
  have gr : ∀ v, aY c v = true → ff c v = true ∧ dz c v = false := out_5 o5;have yV := h.cut e3 (by rw [u2]; exact dq _ _)
  simp only [jF, bo, o5] at e1 e2;simp only [o5] at s0 s1;simp [s0, s1, hn];refine aA [.p, .r 0 0, .p, .p] (n := 51) (by kernel_rfl) (by simp [hn]) ?_
  have uD := fun (F : Fr) (h1 : sl F 46 = .int .i64 (fK (fun x => ff c x.v) L : Int)) (h2 : sl F 49 = .int .i64 (fK (fun x => dz c x.v) L : Int)) => dh (cx := C0) (F := F) (lo := some (.tmp 46)) (hi := some (.tmp 49)) xe u1 (by rw [az, ay, h1, aM]) (by rw [az, ay, h2, aM]) e3 (by rw [u2]; exact dq _ _)
  simp [s0, s1, hn, aR, e1, e2, uD, yV.np, aW yV];exact ⟨iH, j7 h iH e3 u2 hr (jM c) (iV c) gr⟩
 by_cases o6 : c.op = 6
 ·obtain ⟨T1, T2, iH, e1, e2, e3⟩ := qb (S := S) (M := jF S c) h hr hb (hX S c) (fL := 66) (fH := 64) (cL := [.ptr S.next 0 0 7]) (cH := [.ptr S.next 0 0 7]) (dz c) (fu c) rfl rfl rfl rfl
   (fun U hU x => Bf x c S.next (ij hU) (eg hU).1)
   (fun U hU x => zZ x c S.next (ij hU) (eg hU).1)
   (iV c) (jL c) (vi c)
  have gr : ∀ v, aY c v = true → dz c v = true ∧ fu c v = false := out_6 o6;have yV := h.cut e3 (by rw [u2]; exact dq _ _)
  simp only [jF, bo, o6] at e1 e2;simp only [o6] at s0 s1;simp [s0, s1, hn];refine aA [.p, .r 0 0, .p, .p] (n := 51) (by kernel_rfl) (by simp [hn]) ?_
  have uD := fun (F : Fr) (h1 : sl F 46 = .int .i64 (fK (fun x => dz c x.v) L : Int)) (h2 : sl F 49 = .int .i64 (fK (fun x => fu c x.v) L : Int)) => dh (cx := C0) (F := F) (lo := some (.tmp 46)) (hi := some (.tmp 49)) xe u1 (by rw [az, ay, h1, aM]) (by rw [az, ay, h2, aM]) e3 (by rw [u2]; exact dq _ _)
  simp [s0, s1, hn, aR, e1, e2, uD, yV.np, aW yV];exact ⟨iH, j7 h iH e3 u2 hr (iV c) (jL c) gr⟩
 by_cases o7 : c.op = 7
 ·obtain ⟨T1, T2, iH, e1, e2, e3⟩ := qb (S := S) (M := jF S c) h hr hb (hX S c) (fL := 65) (fH := 64) (cL := [.ptr S.next 0 0 7]) (cH := [.ptr S.next 0 0 7]) (dF c) (fu c) rfl rfl rfl rfl
   (fun U hU x => vW x c S.next (ij hU) (eg hU).1)
   (fun U hU x => zZ x c S.next (ij hU) (eg hU).1)
   (fJ c) (jL c) (yy c)
  have gr : ∀ v, aY c v = true → dF c v = true ∧ fu c v = false := out_7 o7;have yV := h.cut e3 (by rw [u2]; exact dq _ _)
  simp only [jF, bo, o7] at e1 e2;simp only [o7] at s0 s1;simp [s0, s1, hn];refine aA [.p, .r 0 0, .p, .p] (n := 51) (by kernel_rfl) (by simp [hn]) ?_
  have uD := fun (F : Fr) (h1 : sl F 46 = .int .i64 (fK (fun x => dF c x.v) L : Int)) (h2 : sl F 49 = .int .i64 (fK (fun x => fu c x.v) L : Int)) => dh (cx := C0) (F := F) (lo := some (.tmp 46)) (hi := some (.tmp 49)) xe u1 (by rw [az, ay, h1, aM]) (by rw [az, ay, h2, aM]) e3 (by rw [u2]; exact dq _ _)
  simp [s0, s1, hn, aR, e1, e2, uD, yV.np, aW yV];exact ⟨iH, j7 h iH e3 u2 hr (fJ c) (jL c) gr⟩
 by_cases o8 : c.op = 8
 ·obtain ⟨T1, T2, iH, e1, e2, e3⟩ := qb (S := S) (M := jF S c) h hr hb (hX S c) (fL := 65) (fH := 67) (cL := [.ptr S.next 0 0 7]) (cH := [.ptr (S.next + 1) 0 0 1, .ptr (S.next + 2) 0 0 1, .ptr S.next 0 0 7]) (dF c) (tX c) rfl rfl rfl rfl
   (fun U hU x => vW x c S.next (ij hU) (eg hU).1)
   (fun U hU x => out67 x c S.next (S.next + 1) (S.next + 2) (ij hU) (memC_1 hU) (memC_2 hU) (eg hU).1 (eg hU).2.1 (eg hU).2.2)
   (fJ c) (Cj (vD hm o8)) (vm c)
  have gr : ∀ v, aY c v = true → dF c v = true ∧ tX c v = false := out_8 o8 (vD hm o8);have yV := h.cut e3 (by rw [u2]; exact dq _ _)
  simp only [jF, bo, o8] at e1 e2;simp only [o8] at s0 s1;simp [s0, s1, hn];refine aA [.p, .r 0 0, .p, .p] (n := 51) (by kernel_rfl) (by simp [hn]) ?_
  have uD := fun (F : Fr) (h1 : sl F 46 = .int .i64 (fK (fun x => dF c x.v) L : Int)) (h2 : sl F 49 = .int .i64 (fK (fun x => tX c x.v) L : Int)) => dh (cx := C0) (F := F) (lo := some (.tmp 46)) (hi := some (.tmp 49)) xe u1 (by rw [az, ay, h1, aM]) (by rw [az, ay, h2, aM]) e3 (by rw [u2]; exact dq _ _)
  simp [s0, s1, hn, aR, e1, e2, uD, yV.np, aW yV];exact ⟨iH, j7 h iH e3 u2 hr (fJ c) (Cj (vD hm o8)) gr⟩
 exfalso
 unfold m6 at hm
 split at hm
 ·cases hm
 split at hm
 ·cases hm
 have o27 : ¬ (2 ≤ c.op ∧ c.op ≤ 7) := by omega
 simp [o1, o8, o9, o27] at hm
end
end Go.Proofs.YtfempihpphbgmaaGreat.idx
end
