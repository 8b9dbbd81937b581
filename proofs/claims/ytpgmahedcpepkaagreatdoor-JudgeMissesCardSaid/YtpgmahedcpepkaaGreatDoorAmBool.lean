/-
  The abstract machine: what lies below stays; a closed call that answers one bool, as one that is known.
  The first place of a byte in a text: the library's word for it and the abstract machine's.
  The abstract machine, so written that the kernel copies little: each operation's text stands under a name of its own.
  The abstract machine: a closed call that answers one bool, by the text that the kernel runs fast.
-/
import Derived.Test.YtpgmahedcpepkaaGreatDoorAmDraws
import Derived.Test.YtpgmahedcpepkaaGreatDoorAmRun
import Derived.Laws.Externs
namespace Go.Am
open Go Go.RowKit

/-- What lies below stays: so all that is known stays known. -/
theorem R.below {Λ : LB} {ρ : Rho} {S : AS} {w w' : World} (h : R Λ ρ S w) (hb : Below w.heap.size w w') : R Λ ρ S w' ∧ Kp ρ S w ρ S w' := by
  have hs : ∀ b, b < w.heap.size → w'.heap[b]? = w.heap[b]? := fun b hb2 => hb.block b hb2
  refine ⟨⟨fun id o ho => (h.objs id o ho).keep (Ext.refl _) fun g pl hp => hs _ (h.lt id o g pl ho hp), h.dom, h.fresh, h.topg, fun id o g pl ho hp => Nat.lt_of_lt_of_le (h.lt id o g pl ho hp) hb.size, h.apart, Nat.le_trans h.start hb.size, fun b hB => ?_⟩,
    ⟨Ext.refl _, hb.os, hb.tape, hb.output, hb.size, fun b hb' _ => hs b hb', fun _ h => .inl h, fun _ h => .inl h, Nat.le_refl _, fun _ _ _ h => ⟨rfl, h⟩⟩⟩
  obtain ⟨d1, d2, d3⟩ := h.base b hB
  exact ⟨d1, (hs b (Nat.lt_of_lt_of_le d1 h.start)).trans d2, d3⟩

/-- A function without arguments that answers one bool, as one that is known. -/
noncomputable def boolQ (b : Bool) (as : List AV) (S : AS) : Option (AV × AS) := match as with | [] => some (.bool b, S) | _ => none
theorem boolQ_ok {Λ : LB} {P : Program} {f : FuncId} {fn : Func} {b : Bool} (hf : P.funcs[f]? = some fn) (hb : fn.body.isSome = true)
    (h : ∀ w, Calls P f #[] w fun e w' => e = .returned (.bool b) ∧ Below w.heap.size w w') : PrimOk Λ P f (boolQ b) := by
  intro ρ as S w args v S' hR hl hq
  cases as with
  | cons x xs => cases hq
  | nil =>
    cases hq
    simp only [LRel] at hl
    have : args = #[] := Array.ext' (by simpa using hl)
    subst this
    refine ⟨⟨fn, hf, hb⟩, (h w).mono fun e w' he => ?_⟩
    obtain ⟨h1, h2⟩ := hR.below he.2
    exact ⟨.bool b, ρ, he.1, by simp [VRel], h1, h2⟩

/-- A call without arguments that the machine answers by one bool; nothing is known of the world. -/
theorem call_slow0 {P : Program} {A : Ask} (h : Ready P A) (hp : ∀ Λ : LB, ∀ x, x ∈ A.prims → PrimOk Λ P x.1 x.2) (hg : A.globs = []) (n : Nat) (f : FuncId) (b : Bool) (hs : true = says P A n f b) (w : World) :
    Calls P f #[] w fun e w' => e = .returned (.bool b) ∧ Below w.heap.size w w' :=
  call_bool_at (Λ := ⟨w, fun _ => False⟩) h (hp _) (by rw [hg]; intro x hx; cases hx) n f b hs w (Nat.le_refl _) (fun _ hb => hb.elim)

end Go.Am

namespace Go.Am
open Go
/-- The first place of a byte, counted along the row. -/
theorem find_range {α : Type} (p : α → Bool) (d : α) : ∀ (l : List α) (k : Nat) (g : Nat → α), (∀ i, i < l.length → g (i + k) = l.getD i d) →
    (List.range' k l.length).find? (fun i => p (g i)) = (l.findIdx? p).map (· + k)
  | [], k, g, _ => rfl
  | x :: l, k, g, h => by
    have h0 : g k = x := by simpa using h 0 (by simp)
    rw [List.length_cons, List.range'_succ, List.find?_cons, h0, List.findIdx?_cons]
    cases p x with
    | true => simp
    | false =>
      have ih := find_range p d l (k + 1) g (fun i hi => by
        have := h (i + 1) (by simpa using hi)
        rw [show i + (k + 1) = i + 1 + k by omega, this]; simp)
      simp only [ih, Bool.false_eq_true, if_false, Option.map_map]
      congr 1; funext j; simp; omega
theorem idxB_find (c : Nat) : ∀ (l : List UInt8) (i : Nat), idxB c (l.map UInt8.toNat) i = (l.findIdx? fun x => Nat.beq x.toNat c).map (· + i)
  | [], i => rfl
  | x :: l, i => by
    show cond (Nat.beq x.toNat c) (some i) (idxB c (l.map UInt8.toNat) (i + 1)) = _
    rw [idxB_find c l (i + 1), List.findIdx?_cons]
    cases Nat.beq x.toNat c with
    | true => simp
    | false =>
      simp only [cond_false, Bool.false_eq_true, if_false, Option.map_map]
      congr 1; funext j; simp; omega
theorem firstIdx_idxB (s : ByteArray) (c : Nat) (hc : c < 256) : Value.int .i64 (firstIdx s (c : Int).toNat.toUInt8) = (match idxB c (s.data.toList.map UInt8.toNat) 0 with | some n => .int .i64 n | none => .int .i64 (-1)) := by
  have hp : ∀ x : UInt8, (x == (c : Int).toNat.toUInt8) = Nat.beq x.toNat c := by
    intro x
    rw [Int.toNat_natCast]
    have : (c.toUInt8).toNat = c := by simp [Nat.mod_eq_of_lt hc]
    rw [Bool.eq_iff_iff, beq_iff_eq, Nat.beq_eq, ← UInt8.toNat_inj, this]
  have e : (List.range s.size).find? (fun i => s[i]! == (c : Int).toNat.toUInt8) = idxB c (s.data.toList.map UInt8.toNat) 0 := by
    rw [idxB_find, ← find_range (fun x : UInt8 => Nat.beq x.toNat c) 0 s.data.toList 0 (fun i => s[i]!) (fun i hi => by
      have hi' : i < s.size := by simpa using hi
      simp only [Nat.add_zero]
      rw [getElem!_pos s i hi', ByteArray.getElem_eq_getElem_data]
      simp [show s.data[i]? = some s.data[i] from Array.getElem?_eq_getElem hi']), List.range_eq_range']
    simp only [hp]
    congr 1
  unfold firstIdx
  rw [e]
  cases idxB c (s.data.toList.map UInt8.toNat) 0 <;> rfl
end Go.Am

namespace Go.Am
open Go
set_option linter.unusedVariables false

def f_none (_ : Cx) (_ : Fr) (_ : Nat) : Option (AV × AObj) := none
noncomputable def f_alloc (e : TypeId) (cx : Cx) (F : Fr) (id : Nat) : Option (AV × AObj) :=
  match zeroOf cx e with
    | some z => match cellsOf z with
      | some cs => some (.ptr id 0 0 (lenL cs), .row cs 0 0 false e)
      | none => none
    | none => none
noncomputable def f_box (t : TypeId) (x : Operand) (cx : Cx) (F : Fr) (id : Nat) : Option (AV × AObj) :=
  match cellsOf (eval F x) with
    | some cs => some (.ptr id 0 0 (lenL cs), .row cs 0 0 false t)
    | none => none
noncomputable def f_buildSlice (t : TypeId) (n : Nat) (parts : Array (Nat × Operand)) (cx : Cx) (F : Fr) (id : Nat) : Option (AV × AObj) :=
  match und cx t with
    | some (.slice e) => match szOf cx e, zeroOf cx e with
      | some (Nat.succ z), some zv => match cellsOf zv with
        | some zero => cond (Nat.beq (lenL zero) (Nat.succ z) && Nat.ble (Nat.mul n (Nat.succ z)) 16777216)
          (match fillL cx F (fun i => some (Nat.mul i (Nat.succ z), Nat.succ z)) parts.toList (repL n zero) with
          | some cells => some (.slice id 0 0 n (Nat.mul n (Nat.succ z)) (Nat.succ z) (some n), .row cells 0 0 false e)
          | none => none) none
        | none => none
      | _, _ => none
    | _ => none
noncomputable def f_makeMap (t : TypeId) (r : Option Operand) (cx : Cx) (F : Fr) (id : Nat) : Option (AV × AObj) :=
  match und cx t with
    | some (.map _ _) => cond (hintOk F r) (some (.map id, .map [] 0)) none
    | _ => none
noncomputable def f_makeSlice (t : TypeId) (l : Operand) (c : Operand) (cx : Cx) (F : Fr) (id : Nat) : Option (AV × AObj) :=
  match und cx t, natOf (eval F l), natOf (eval F c) with
    | some (.slice e), some l, some c => match szOf cx e, bytesOf cx e, zeroOf cx e with
      | some (Nat.succ z), some bs, some zv => match cellsOf zv with
        | some zero => cond (Nat.beq (lenL zero) (Nat.succ z) && Nat.ble l c && fits c bs)
          (some (.slice id 0 0 l (Nat.mul c (Nat.succ z)) (Nat.succ z) (some c), .row (repL c zero) 0 0 false e)) none
        | none => none
      | _, _, _ => none
    | _, _, _ => none
noncomputable def freshK (op : Op) : Cx → Fr → Nat → Option (AV × AObj) := @Op.rec (fun _ => Cx → Fr → Nat → Option (AV × AObj)) (fun _ => f_none) (fun _ => f_none) (fun _ _ _ => f_none) f_alloc f_box (fun _ _ => f_none) f_buildSlice (fun _ _ _ _ => f_none) (fun _ _ => f_none) (fun _ _ _ => f_none) (fun _ => f_none) (fun _ => f_none) (fun _ => f_none) (fun _ _ _ _ _ => f_none) (fun _ _ _ => f_none) (fun _ _ _ => f_none) (fun _ _ => f_none) (fun _ _ => f_none) (fun _ _ _ => f_none) f_makeMap (fun _ _ => f_none) f_makeSlice (fun _ _ _ _ _ => f_none) (fun _ _ _ => f_none) (fun _ _ _ => f_none) (fun _ _ _ => f_none) (fun _ _ _ => f_none) (fun _ _ _ _ => f_none) (fun _ _ _ _ => f_none) (fun _ _ _ => f_none) (fun _ _ _ _ => f_none) (fun _ _ => f_none) (fun _ _ => f_none) (fun _ => f_none) (fun _ _ _ _ => f_none) (fun _ _ => f_none) (fun _ => f_none) (fun _ => f_none) (fun _ => f_none) (fun _ => f_none) (fun _ _ => f_none) (fun _ _ _ => f_none) (fun _ _ => f_none) op
theorem freshK_eq (op : Op) (cx : Cx) (F : Fr) (id : Nat) : freshK op cx F id = freshV cx F id op := by cases op <;> rfl
noncomputable def k_move (x : Operand) (cx : Cx) (F : Fr) (S : AS) : AR :=
  .val (eval F x) S
noncomputable def k_assign (x : Operand) (cx : Cx) (F : Fr) (S : AS) : AR :=
  .val (eval F x) S
noncomputable def k_pick (c : Operand) (a : Operand) (b : Operand) (cx : Cx) (F : Fr) (S : AS) : AR :=
  match eval F c with
    | .bool true => .val (eval F a) S
    | .bool false => .val (eval F b) S
    | _ => .err 20
noncomputable def k_alloc (e : TypeId) (cx : Cx) (F : Fr) (S : AS) : AR :=
  freshR (f_alloc e cx F S.next) S 21
noncomputable def k_box (t : TypeId) (x : Operand) (cx : Cx) (F : Fr) (S : AS) : AR :=
  freshR (f_box t x cx F S.next) S 23
noncomputable def k_build (t : TypeId) (parts : Array (Nat × Operand)) (cx : Cx) (F : Fr) (S : AS) : AR :=
  val? (buildV cx F t parts.toList) S 24
noncomputable def k_buildSlice (t : TypeId) (n : Nat) (parts : Array (Nat × Operand)) (cx : Cx) (F : Fr) (S : AS) : AR :=
  freshR (f_buildSlice t n parts cx F S.next) S 25
noncomputable def k_insert (t : TypeId) (m : Operand) (k : Operand) (v : Operand) (cx : Cx) (F : Fr) (S : AS) : AR :=
  vals? (updateV cx S t (eval F m) (eval F k) (eval F v)) 79
noncomputable def k_load (t : TypeId) (x : Operand) (cx : Cx) (F : Fr) (S : AS) : AR :=
  match eval F x with
    | .ptr id g off lim => match aggOf cx t with
      | some true => match szOf cx t with
        | some n => match rd S id g off n lim with
          | some cs => .val (.agg cs) S
          | none => .err 30
        | none => .err 31
      | some false => match rd S id g off 1 lim with
        | some [v] => .val v S
        | _ => .err 32
      | none => .err 33
    | .glob g off => match cx.globs.get g with
      | some cs => val? (globV cx t cs off) S 133
      | none => .err 134
    | _ => .err 34
noncomputable def k_store (t : TypeId) (x : Operand) (y : Operand) (cx : Cx) (F : Fr) (S : AS) : AR :=
  match eval F x, cellsOf (eval F y), szOf cx t with
    | .ptr id g off lim, some cs, some n => cond (Nat.beq (lenL cs) n) (match wr S id g off lim cs with
      | some S' => .val .undef S'
      | none => .err 35) (.err 36)
    | _, _, _ => .err 37
def k_ready (_ : Nat) (_ : Cx) (_ : Fr) (_ : AS) : AR := .err 99
def k_waits (_ : Nat) (_ : Cx) (_ : Fr) (_ : AS) : AR := .err 99
noncomputable def k_nilCheck (x : Operand) (cx : Cx) (F : Fr) (S : AS) : AR :=
  match eval F x with
    | .ptr i g o l => .val (.ptr i g o l) S
    | .glob g o => .val (.glob g o) S
    | .func (.func f) a b => .val (.func (.func f) a b) S
    | .slice a b c d e f g => .val (.slice a b c d e f g) S
    | .map i => .val (.map i) S
    | .obj .yld i => .val (.obj .yld i) S
    | .obj .chan i => .val (.obj .chan i) S
    | _ => .err 38
noncomputable def k_binOp (op : BinOp) (t : TypeId) (x : Operand) (y : Operand) (_x4 : TypeId) (cx : Cx) (F : Fr) (S : AS) : AR :=
  val? (binV cx op t ((x matches .const _) || (y matches .const _)) (eval F x) (eval F y)) S 40
noncomputable def k_unOp (op : UnOp) (_x1 : TypeId) (x : Operand) (cx : Cx) (F : Fr) (S : AS) : AR :=
  val? (unV op (eval F x)) S 41
noncomputable def k_convert (src : TypeId) (dst : TypeId) (x : Operand) (cx : Cx) (F : Fr) (S : AS) : AR :=
  match und cx src, und cx dst, eval F x with
    | some _, some (.int k), .int _ n => .val (mkI k n) S
    | some _, some .string, .str s => .val (.str s) S
    | some _, some (.slice e), .str s => match und cx e with
      | some (.int .u8) => .val (.slice S.next 0 0 s.length s.length 1 none) ⟨S.h.set S.next (.row (mapL (fun n => AV.int .u8 (.ofNat n)) s) 0 0 true e), Nat.succ S.next⟩
      | _ => .err 42
    | some (.slice e), some .string, x => match und cx e, x with
      | some (.int .u8), .nils => .val (.str []) S
      | some (.int .u8), .slice id g off len lim 1 _ => match len with
        | 0 => .val (.str []) S
        | _ => match rd S id g off len lim with
          | some cs => match bytesL cs with
            | some l => .val (.str l) S
            | none => .err 43
          | none => .err 44
      | _, _ => .err 45
    | some (.slice _), some (.slice e), .slice id g off len lim sz cap => cond (Nat.beq src dst && Nat.blt 0 len) (match und cx e, S.h.get id with
      | some (.int .u8), some (.row cells low top frz ty) => cond (Nat.ble low g && Nat.ble g top && mayFrz frz low) (.val (.slice id g off len lim sz cap) ⟨S.h.set id (.row cells low top true ty), S.next⟩) (.err 147)
      | _, _ => .err 145) (.err 146)
    | some (.pointer e), some .unsafePointer, .ptr id g off lim => match szOf cx e, S.h.get id with
      | some (Nat.succ _), some (.row _ low top _ _) => cond (Nat.blt off lim && Nat.ble low g && Nat.ble g top) (.val (.ptr id g off lim) S) (.err 141)
      | _, _ => .err 142
    | some .unsafePointer, some (.pointer u), .ptr id g off lim => match g, off, szOf cx u, S.h.get id with
      | 0, 0, some (Nat.succ z), some (.row _ low _ _ ty) => cond (Nat.beq ty u && Nat.ble (Nat.succ z) lim && Nat.beq low 0) (.val (.ptr id 0 0 lim) S) (.err 143)
      | _, _, _, _ => .err 144
    | _, _, _ => .err 46
def k_sliceToArrayPointer (_ : TypeId) (_ : Operand) (_ : Cx) (_ : Fr) (_ : AS) : AR := .err 99
noncomputable def k_makeInterface (t : TypeId) (x : Operand) (cx : Cx) (F : Fr) (S : AS) : AR :=
  match und cx t with
    | some (.interface _) => .err 47
    | some _ => .val (.iface t (eval F x)) S
    | none => .err 48
noncomputable def k_makeFunc (fn : Fn) (first : Array Operand) (captured : Array Operand) (cx : Cx) (F : Fr) (S : AS) : AR :=
  .val (.func fn (args F first) (args F captured)) S
noncomputable def k_makeMap (t : TypeId) (r : Option Operand) (cx : Cx) (F : Fr) (S : AS) : AR :=
  freshR (f_makeMap t r cx F S.next) S 48
def k_makeChan (_ : TypeId) (_ : Operand) (_ : Cx) (_ : Fr) (_ : AS) : AR := .err 99
noncomputable def k_makeSlice (t : TypeId) (l : Operand) (c : Operand) (cx : Cx) (F : Fr) (S : AS) : AR :=
  freshR (f_makeSlice t l c cx F S.next) S 49
noncomputable def k_slice (t : TypeId) (x : Operand) (lo : Option Operand) (hi : Option Operand) (mx : Option Operand) (cx : Cx) (F : Fr) (S : AS) : AR :=
  val? (sliceV cx F t (eval F x) lo hi mx) S 53
noncomputable def k_fieldAddr (s : TypeId) (x : Operand) (f : Nat) (cx : Cx) (F : Fr) (S : AS) : AR :=
  match und cx s, eval F x with
    | some (.struct fs), .ptr id g off lim => match nth f fs.toList with
      | some fd => match szOf cx fd.type with
        | some (Nat.succ _) => .val (forceN (Nat.add off fd.offset) fun o => .ptr id g o lim) S
        | _ => .err 54
      | none => .err 55
    | _, _ => .err 56
noncomputable def k_field (t : TypeId) (x : Operand) (f : Nat) (cx : Cx) (F : Fr) (S : AS) : AR :=
  match und cx t, eval F x with
    | some (.struct fs), .agg cs => match nth f fs.toList with
      | some fd => val? (partOf cx fd.type cs fd.offset) S 57
      | none => .err 58
    | _, _ => .err 59
noncomputable def k_indexAddr (t : TypeId) (x : Operand) (ix : Operand) (cx : Cx) (F : Fr) (S : AS) : AR :=
  match und cx t, eval F x, natOf (eval F ix) with
    | some (.slice e), .slice id g off len lim sz _, some i => match szOf cx e with
      | some z => cond (Nat.beq z sz && Nat.blt i len) (.val (forceN (Nat.add off (Nat.mul i sz)) fun o => .ptr id g o lim) S) (.err 60)
      | none => .err 61
    | some (.array n e), .ptr id g off lim, some i => match szOf cx e with
      | some z => cond (Nat.blt i n) (.val (forceN (Nat.add off (Nat.mul i z)) fun o => .ptr id g o lim) S) (.err 62)
      | none => .err 63
    | some (.array n e), .glob g off, some i => match szOf cx e with
      | some z => cond (Nat.blt i n) (.val (forceN (Nat.add off (Nat.mul i z)) fun o => .glob g o) S) (.err 162)
      | none => .err 163
    | _, _, _ => .err 64
noncomputable def k_index (t : TypeId) (x : Operand) (ix : Operand) (cx : Cx) (F : Fr) (S : AS) : AR :=
  match und cx t, eval F x, natOf (eval F ix) with
    | some .string, .str s, some i => match nth i s with
      | some n => .val (.int .u8 (.ofNat n)) S
      | none => .err 65
    | some (.array n e), .agg cs, some i => match szOf cx e with
      | some z => cond (Nat.blt i n) (val? (partOf cx e cs (Nat.mul i z)) S 66) (.err 67)
      | none => .err 68
    | _, _, _ => .err 70
noncomputable def k_lookup (t : TypeId) (x : Operand) (ix : Operand) (ok : Bool) (cx : Cx) (F : Fr) (S : AS) : AR :=
  val? (lookupV cx S t (eval F x) (eval F ix) ok) S 71
noncomputable def k_mapUpdate (t : TypeId) (m : Operand) (k : Operand) (v : Operand) (cx : Cx) (F : Fr) (S : AS) : AR :=
  vals? (updateV cx S t (eval F m) (eval F k) (eval F v)) 78
noncomputable def k_mapEntry (t : TypeId) (m : Operand) (k : Operand) (cx : Cx) (F : Fr) (S : AS) : AR :=
  vals? (entryMV cx S t (eval F m) (eval F k)) 86
noncomputable def k_entryStore (_x0 : TypeId) (m : Operand) (k : Operand) (v : Operand) (cx : Cx) (F : Fr) (S : AS) : AR :=
  vals? (entrySV S (eval F m) (eval F k) (eval F v)) 87
noncomputable def k_range (t : TypeId) (x : Operand) (cx : Cx) (F : Fr) (S : AS) : AR :=
  vals? (rangeV cx S t (eval F x)) 88
noncomputable def k_next (x : Operand) (str : Bool) (cx : Cx) (F : Fr) (S : AS) : AR :=
  nextV S (eval F x) str
noncomputable def k_entry (x : Operand) (cx : Cx) (F : Fr) (S : AS) : AR :=
  val? (entryV S (eval F x)) S 89
noncomputable def k_typeAssert (x : Operand) (_x1 : TypeId) (t : TypeId) (ok : Bool) (cx : Cx) (F : Fr) (S : AS) : AR :=
  val? (assertV cx (eval F x) t ok) S 85
noncomputable def k_extract (x : Operand) (i : Nat) (cx : Cx) (F : Fr) (S : AS) : AR :=
  match eval F x with
    | .tuple vs => val? (nth i vs) S 82
    | _ => .err 83
noncomputable def k_call (c : Call) (cx : Cx) (F : Fr) (S : AS) : AR :=
  match c.callee with
    | .value f => callV cx S (eval F f) (args F c.args)
    | .builtin b => builtinV cx S b c.argTypes.toList (args F c.args)
    | .invoke _ _ => .err 84
def k_go (_ : Call) (_ : Cx) (_ : Fr) (_ : AS) : AR := .err 99
def k_defer (_ : Call) (_ : Cx) (_ : Fr) (_ : AS) : AR := .err 99
noncomputable def k_panic (x : Operand) (cx : Cx) (F : Fr) (S : AS) : AR :=
  match eval F x with
    | .iface t v => .pan (.iface t v) S
    | _ => .err 98
def k_send (_ : Operand) (_ : Operand) (_ : Cx) (_ : Fr) (_ : AS) : AR := .err 99
def k_recv (_ : TypeId) (_ : Operand) (_ : Bool) (_ : Cx) (_ : Fr) (_ : AS) : AR := .err 99
def k_select (_ : Array SelectCase) (_ : Bool) (_ : Cx) (_ : Fr) (_ : AS) : AR := .err 99
noncomputable def aopK (o : Oper) : Cx → Fr → AS → AR := @Op.rec (fun _ => Cx → Fr → AS → AR) k_move k_assign k_pick k_alloc k_box k_build k_buildSlice k_insert k_load k_store k_ready k_waits k_nilCheck k_binOp k_unOp k_convert k_sliceToArrayPointer k_makeInterface k_makeFunc k_makeMap k_makeChan k_makeSlice k_slice k_fieldAddr k_field k_indexAddr k_index k_lookup k_mapUpdate k_mapEntry k_entryStore k_range k_next k_entry k_typeAssert k_extract k_call k_go k_defer k_panic k_send k_recv k_select o.op
theorem aopK_eq (o : Oper) (cx : Cx) (F : Fr) (S : AS) : aopK o cx F S = aop cx F S o := by
  obtain ⟨dst, op, ty, pos, after, guard⟩ := o
  cases op <;> rfl

/-! ### One operation, a row of them -/
section
variable {β : Type}
def v_top (k : AV → β) (_ : AV → β) : β := k .top
def v_bool (b : Bool) (k : AV → β) (_ : AV → β) : β := k (.bool b)
def v_int (t : IntKind) (n : Int) (k : AV → β) (_ : AV → β) : β := k (.int t n)
def v_str (s : List Nat) (k : AV → β) (_ : AV → β) : β := k (.str s)
def v_nilp (k : AV → β) (_ : AV → β) : β := k .nilp
def v_ptr (a b c d : Nat) (k : AV → β) (_ : AV → β) : β := k (.ptr a b c d)
def v_glob (a b : Nat) (k : AV → β) (_ : AV → β) : β := k (.glob a b)
def v_nils (k : AV → β) (_ : AV → β) : β := k .nils
def v_slice (a b c d e f : Nat) (g : Option Nat) (k : AV → β) (_ : AV → β) : β := k (.slice a b c d e f g)
def v_nilm (k : AV → β) (_ : AV → β) : β := k .nilm
def v_map (a : Nat) (k : AV → β) (_ : AV → β) : β := k (.map a)
def v_func (f : Fn) (a b : List AV) (k : AV → β) (_ : AV → β) : β := k (.func f a b)
def v_nilf (k : AV → β) (_ : AV → β) : β := k .nilf
def v_niface (k : AV → β) (_ : AV → β) : β := k .niface
def v_iface (t : TypeId) (v : AV) (k : AV → β) (_ : AV → β) : β := k (.iface t v)
def v_agg (l : List AV) (k : AV → β) (_ : AV → β) : β := k (.agg l)
def v_tuple (l : List AV) (k : AV → β) (_ : AV → β) : β := k (.tuple l)
def v_obj (o : OK) (i : Nat) (k : AV → β) (_ : AV → β) : β := k (.obj o i)
def v_nilc (k : AV → β) (_ : AV → β) : β := k .nilc
def v_pan (v : AV) (_ : AV → β) (p : AV → β) : β := p v
/-- The value, looked into; a panic apart. -/
noncomputable def headV (v : AV) : (AV → β) → (AV → β) → β :=
  @AV.casesOn (fun _ => (AV → β) → (AV → β) → β) v v_top v_bool v_int v_str v_nilp v_ptr v_glob v_nils v_slice v_nilm v_map v_func v_nilf v_niface v_iface v_agg v_tuple v_obj v_nilc v_pan
theorem headV_eq (v : AV) (k p : AV → β) : headV v k p = notPan v p (k v) := by cases v <;> rfl
noncomputable def headS (S : AS) (k : AS → β) : β := @AS.rec (fun _ => β) (fun h n => forceN n fun n => k ⟨h, n⟩) S
theorem headS_eq (S : AS) (k : AS → β) : headS S k = k S := by
  obtain ⟨h, n⟩ := S
  exact forceN_eq n fun n => k ⟨h, n⟩
end
abbrev OpsK := Fr → AS → Res (Option AV × Fr × AS)
def panK (F : Fr) (S : AS) (x : AV) : Res (Option AV × Fr × AS) := .ok (some x, F, S) []
/-- On behind an operation. -/
noncomputable def contK (dst : Option Tmp) (ih : OpsK) (F : Fr) (v : AV) (S : AS) : Res (Option AV × Fr × AS) := headS S fun S => headV v (fun v => ih (putD F dst v) S) (panK F S)
theorem contK_eq (dst : Option Tmp) (ih : OpsK) (F : Fr) (v : AV) (S : AS) : contK dst ih F v S = notPan v (fun x => .ok (some x, F, S) []) (ih (putD F dst v) S) := by
  unfold contK
  rw [headS_eq, headV_eq]
  rfl
/-- What stands behind an operation. -/
noncomputable def nextR (dst : Option Tmp) (ih : OpsK) (F : Fr) (r : Bool × AV × AS) : Res (Option AV × Fr × AS) := cond r.1 (.ok (some r.2.1, F, r.2.2) []) (ih (putD F dst r.2.1) r.2.2)
noncomputable def contV (dst : Option Tmp) (ih : OpsK) (F : Fr) (v : AV) (S : AS) : Res (Option AV × Fr × AS) := headS S fun S => headV v (fun v => ih (putD F dst v) S) (fun x => ih (putD F dst (.pan x)) S)
theorem contV_eq (dst : Option Tmp) (ih : OpsK) (F : Fr) (v : AV) (S : AS) : contV dst ih F v S = nextR dst ih F (false, v, S) := by
  unfold contV
  rw [headS_eq, headV_eq]
  cases v <;> rfl
noncomputable def contP (dst : Option Tmp) (ih : OpsK) (F : Fr) (r : AV × AS) : Res (Option AV × Fr × AS) := @Prod.rec AV AS (fun _ => Res (Option AV × Fr × AS)) (contK dst ih F) r
theorem contP_eq (dst : Option Tmp) (ih : OpsK) (F : Fr) : contP dst ih F = fun r => Res.bind (retR r) (nextR dst ih F) := by
  funext r
  obtain ⟨v, S⟩ := r
  show contK dst ih F v S = _
  rw [contK_eq]
  cases v <;> rfl
def retV (r : AV × AS) : Bool × AV × AS := notPan r.1 (fun x => (true, x, r.2)) (false, r.1, r.2)
theorem retR_eq : retR = fun r => .ok (retV r) [] := by
  funext r
  obtain ⟨v, S⟩ := r
  cases v <;> rfl
theorem bind_cons {α β : Type} (x y : α) (ys : List α) (f : α → Res β) : Res.bind (.ok x (y :: ys)) f = Res.app (f x) (Res.bind (.ok y ys) f) := by
  cases ys <;> rfl
theorem bind_one {α β : Type} (φ : α → β) : ∀ (xs : List α) (x : α), Res.bind (.ok x xs) (fun x => .ok (φ x) []) = .ok (φ x) (xs.map φ)
  | [], _ => rfl
  | y :: ys, x => by rw [bind_cons, bind_one φ ys y]; rfl
theorem bind_map {α β γ : Type} (φ : α → β) (g : β → Res γ) : ∀ (xs : List α) (x : α), Res.bind (.ok (φ x) (xs.map φ)) g = Res.bind (.ok x xs) fun x => g (φ x)
  | [], _ => rfl
  | y :: ys, x => by rw [List.map_cons, bind_cons, bind_cons, bind_map φ g ys y]
theorem bind_ret {γ : Type} (r : Res (AV × AS)) (g : Bool × AV × AS → Res γ) : Res.bind (Res.bind r retR) g = Res.bind r fun x => Res.bind (retR x) g := by
  rw [retR_eq]
  cases r with
  | err n => rfl
  | ok x xs => rw [bind_one, bind_map]; rfl
def r_err (n : Nat) (_ : CallK) (_ : Option Tmp) (_ : OpsK) (_ : Fr) : Res (Option AV × Fr × AS) := .err n
noncomputable def r_val (v : AV) (S : AS) (_ : CallK) (dst : Option Tmp) (ih : OpsK) (F : Fr) : Res (Option AV × Fr × AS) := contV dst ih F v S
noncomputable def r_enter (f : FuncId) (as : List AV) (S : AS) (K : CallK) (dst : Option Tmp) (ih : OpsK) (F : Fr) : Res (Option AV × Fr × AS) := Res.bind (K (.fn f) as S) (contP dst ih F)
noncomputable def r_round (f : Nat) (as : List AV) (S : AS) (K : CallK) (dst : Option Tmp) (ih : OpsK) (F : Fr) : Res (Option AV × Fr × AS) := Res.bind (K (.round f) as S) (contP dst ih F)
noncomputable def r_pan (v : AV) (S : AS) (_ : CallK) (dst : Option Tmp) (ih : OpsK) (F : Fr) : Res (Option AV × Fr × AS) := .ok (some v, F, S) []
noncomputable def r_many (l : List (AV × AS)) (_ : CallK) (dst : Option Tmp) (ih : OpsK) (F : Fr) : Res (Option AV × Fr × AS) := Res.bind (manyR l) (nextR dst ih F)
noncomputable def goK (r : AR) : CallK → Option Tmp → OpsK → Fr → Res (Option AV × Fr × AS) :=
  @AR.rec (fun _ => CallK → Option Tmp → OpsK → Fr → Res (Option AV × Fr × AS)) r_err r_val r_enter r_round r_pan r_many r
noncomputable def wantK (cx : Cx) (K : CallK) (o : Oper) (ih : OpsK) (F : Fr) (S : AS) (w : Bool) : Res (Option AV × Fr × AS) :=
  @Bool.rec (fun _ => Res (Option AV × Fr × AS)) (ih (putD F o.dst .undef) S) (goK (aopK o cx F S) K o.dst ih F) w
noncomputable def guardK (cx : Cx) (K : CallK) (o : Oper) (ih : OpsK) (F : Fr) (S : AS) (w : Option Bool) : Res (Option AV × Fr × AS) :=
  @Option.rec Bool (fun _ => Res (Option AV × Fr × AS)) (.err 1000) (wantK cx K o ih F S) w
noncomputable def stepO (cx : Cx) (K : CallK) (ops : List Oper) (o : Oper) (ih : OpsK) (F : Fr) (S : AS) : Res (Option AV × Fr × AS) :=
  @Option.rec (Nat × Bool) (fun _ => Res (Option AV × Fr × AS)) (goK (aopK o cx F S) K o.dst ih F) (fun _ => guardK cx K o ih F S (wanted ops F o)) o.guard
theorem goK_eq (r : AR) (K : CallK) (dst : Option Tmp) (ih : OpsK) (F : Fr) : goK r K dst ih F = Res.bind (match r with
    | .val v S => .ok (false, v, S) []
    | .enter f as S => Res.bind (K (.fn f) as S) retR
    | .round id as S => Res.bind (K (.round id) as S) retR
    | .pan v S => .ok (true, v, S) []
    | .many l => manyR l
    | .err n => .err n) (nextR dst ih F) := by
  cases r with
  | err n => rfl
  | val v S => exact contV_eq dst ih F v S
  | enter f as S => show Res.bind _ (contP dst ih F) = _; rw [contP_eq]; exact (bind_ret _ _).symm
  | round f as S => show Res.bind _ (contP dst ih F) = _; rw [contP_eq]; exact (bind_ret _ _).symm
  | pan v S => rfl
  | many l => rfl
theorem stepO_eq (cx : Cx) (K : CallK) (ops : List Oper) (o : Oper) (ih : OpsK) (F : Fr) (S : AS) : stepO cx K ops o ih F S = Res.bind (one cx K ops o F S) (nextR o.dst ih F) := by
  have key : guardK cx K o ih F S (wanted ops F o) = Res.bind (one cx K ops o F S) (nextR o.dst ih F) := by
    unfold one
    cases wanted ops F o with
    | none => rfl
    | some b =>
      cases b with
      | false => rfl
      | true =>
        show goK (aopK o cx F S) K o.dst ih F = _
        rw [goK_eq, aopK_eq]
        rfl
  unfold stepO
  cases hg : o.guard with
  | some jw => exact key
  | none =>
    have hw : wanted ops F o = some true := by unfold wanted; rw [hg]
    rw [hw] at key
    exact key
noncomputable def deferK (cx : Cx) (ops : List Oper) (o : Oper) (c : Call) (ih : OpsK) (F : Fr) (S : AS) : Res (Option AV × Fr × AS) := match wanted ops F o with
        | some true => match deferV F c with
          | some d => ih (putD ⟨F.t, F.n, d :: F.ds⟩ o.dst .undef) S
          | none => .err 1009
        | some false => ih (putD F o.dst .undef) S
        | none => .err 1010
noncomputable def runOpsK (cx : Cx) (K : CallK) (ops : List Oper) (l : List Oper) : OpsK :=
  @List.rec Oper (fun _ => OpsK) (fun F S => .ok (none, F, S) [])
    (fun o _ ih => @Option.rec Call (fun _ => OpsK) (stepO cx K ops o ih) (fun c => deferK cx ops o c ih) (isDefer o)) l
theorem runOpsK_eq (cx : Cx) (K : CallK) (ops : List Oper) : ∀ (l : List Oper) (F : Fr) (S : AS), runOpsK cx K ops l F S = runOps cx K ops l F S
  | [], F, S => rfl
  | o :: l, F, S => by
    have e : runOpsK cx K ops l = runOps cx K ops l := by funext F S; exact runOpsK_eq cx K ops l F S
    show (@Option.rec Call (fun _ => OpsK) (stepO cx K ops o (runOpsK cx K ops l)) (fun c => deferK cx ops o c (runOpsK cx K ops l)) (isDefer o)) F S = (match isDefer o with
      | none => Res.bind (one cx K ops o F S) fun r => cond r.1 (.ok (some r.2.1, F, r.2.2) []) (runOps cx K ops l (putD F o.dst r.2.1) r.2.2)
      | some c => match wanted ops F o with
        | some true => match deferV F c with
          | some d => runOps cx K ops l (putD ⟨F.t, F.n, d :: F.ds⟩ o.dst .undef) S
          | none => .err 1009
        | some false => runOps cx K ops l (putD F o.dst .undef) S
        | none => .err 1010)
    rw [e]
    cases isDefer o with
    | none => exact stepO_eq cx K ops o (runOps cx K ops l) F S
    | some c => rfl

/-! ### A region that draws its order -/
noncomputable def oneVR (r : AR) : Option AV := @AR.rec (fun _ => Option AV) (fun _ => none) (fun v _ => some v) (fun _ _ _ => none) (fun _ _ _ => none) (fun _ _ => none) (fun _ => none) r
noncomputable def oneVW (cx : Cx) (o : Oper) (F : Fr) (S : AS) (w : Option Bool) : Option AV :=
  @Option.rec Bool (fun _ => Option AV) none (fun b => @Bool.rec (fun _ => Option AV) (some .undef) (oneVR (aopK o cx F S)) b) w
noncomputable def oneVK (cx : Cx) (ops : List Oper) (F : Fr) (S : AS) (o : Oper) : Option AV := oneVW cx o F S (wanted ops F o)
theorem oneVK_eq (cx : Cx) (ops : List Oper) (F : Fr) (S : AS) (o : Oper) : oneVK cx ops F S o = oneV cx ops F S o := by
  unfold oneVK oneV oneVW
  cases wanted ops F o with
  | none => rfl
  | some b =>
    cases b with
    | false => rfl
    | true =>
      show oneVR (aopK o cx F S) = _
      rw [aopK_eq]
      simp only []
      cases aop cx F S o <;> rfl
noncomputable def oneRK (K : CallK) (r : AR) : Res (Bool × AV × AS) :=
  match r with
  | .val v S => .ok (false, v, S) []
  | .enter f as S => Res.bind (K (.fn f) as S) retR
  | .round id as S => Res.bind (K (.round id) as S) retR
  | .pan v S => .ok (true, v, S) []
  | .many l => manyR l
  | .err n => .err n
noncomputable def oneW (cx : Cx) (K : CallK) (o : Oper) (F : Fr) (S : AS) (w : Option Bool) : Res (Bool × AV × AS) :=
  @Option.rec Bool (fun _ => Res (Bool × AV × AS)) (.err 1000) (fun b => @Bool.rec (fun _ => Res (Bool × AV × AS)) (.ok (false, .undef, S) []) (oneRK K (aopK o cx F S)) b) w
noncomputable def oneK (cx : Cx) (K : CallK) (ops : List Oper) (o : Oper) (F : Fr) (S : AS) : Res (Bool × AV × AS) := oneW cx K o F S (wanted ops F o)
theorem oneK_eq (cx : Cx) (K : CallK) (ops : List Oper) (o : Oper) (F : Fr) (S : AS) : oneK cx K ops o F S = one cx K ops o F S := by
  unfold oneK one oneW
  cases wanted ops F o with
  | none => rfl
  | some b =>
    cases b with
    | false => rfl
    | true =>
      show oneRK K (aopK o cx F S) = _
      rw [aopK_eq]
      rfl
abbrev RowsR := Option (Nat × AV × AS) × Fr × AS × List AS
abbrev RowsT := Fr → AS → List Pend → List AS → Nat → Res RowsR
noncomputable def rowNil (F : Fr) (S : AS) (ps : List Pend) (snaps : List AS) (_ : Nat) : Res RowsR := .ok (none, F, commit (fun _ => true) ps S, S :: snaps) []
noncomputable def rowValV (dst : Option Tmp) (ih : RowsT) (F : Fr) (S : AS) (ps : List Pend) (snaps : List AS) (id : Nat) (v : AV) : Res RowsR := headV v (fun v => ih (putD F dst v) S ps snaps id) (fun x => ih (putD F dst (.pan x)) S ps snaps id)
noncomputable def rowVal (cx : Cx) (_ : CallK) (ops : List Oper) (r : Row) (_ : List Row) (ih : RowsT) (F : Fr) (S : AS) (ps : List Pend) (snaps : List AS) (id : Nat) : Res RowsR :=
  @Option.rec AV (fun _ => Res RowsR) (.err 1006) (rowValV r.o.dst ih F S ps snaps id) (oneVK cx ops F S r.o)
noncomputable def rowPan (l : List Row) (i : Nat) (F : Fr) (S0 : AS) (snaps : List AS) (r : AV × AS) : Res RowsR := cond (allL (fun q => bit q.bef i) l) (.ok (some (i, r.1, r.2), F, S0, snaps) []) (.err 1007)
noncomputable def rowEffP (l : List Row) (i : Nat) (S0 : AS) (dst : Option Tmp) (ih : RowsT) (F : Fr) (ps' : List Pend) (snaps : List AS) (id : Nat) (q : Bool × AV × AS) : Res RowsR :=
  @Prod.rec Bool (AV × AS) (fun _ => Res RowsR) (fun b r => @Bool.rec (fun _ => Res RowsR) (@Prod.rec AV AS (fun _ => Res RowsR) (fun v S => headS S fun S => headV v (fun v => ih (putD F dst v) S ps' snaps id) (fun x => ih (putD F dst (.pan x)) S ps' snaps id)) r) (rowPan l i F S0 snaps r) b) q
noncomputable def rowEff (cx : Cx) (K : CallK) (ops : List Oper) (r : Row) (l : List Row) (ih : RowsT) (F : Fr) (S : AS) (ps : List Pend) (snaps : List AS) (id : Nat) : Res RowsR :=
  Res.bind (Res.sole (oneK cx K ops r.o F (commit (fun p => bit r.bef p.i) ps S))) (rowEffP l r.i S r.o.dst ih F (filL (fun p => !bit r.bef p.i) ps) (S :: snaps) id)
noncomputable def rowFreshV (dst : Option Tmp) (i : Nat) (ih : RowsT) (F : Fr) (S : AS) (ps : List Pend) (snaps : List AS) (id : Nat) (x : AV × AObj) : Res RowsR :=
  @Prod.rec AV AObj (fun _ => Res RowsR) (fun v o => ih (putD F dst v) S (⟨i, id, o⟩ :: ps) snaps (Nat.succ id)) x
noncomputable def rowFreshB (cx : Cx) (r : Row) (ih : RowsT) (F : Fr) (S : AS) (ps : List Pend) (snaps : List AS) (id : Nat) (b : Bool) : Res RowsR :=
  @Bool.rec (fun _ => Res RowsR) (ih (putD F r.o.dst .undef) S ps snaps id) (@Option.rec (AV × AObj) (fun _ => Res RowsR) (.err 1001) (rowFreshV r.o.dst r.i ih F S ps snaps id) (freshK r.o.op cx F id)) b
noncomputable def rowFresh (cx : Cx) (_ : CallK) (ops : List Oper) (r : Row) (_ : List Row) (ih : RowsT) (F : Fr) (S : AS) (ps : List Pend) (snaps : List AS) (id : Nat) : Res RowsR :=
  @Option.rec Bool (fun _ => Res RowsR) (.err 1002) (rowFreshB cx r ih F S ps snaps id) (wanted ops F r.o)
noncomputable def rowStep (c : Cls) : Cx → CallK → List Oper → Row → List Row → RowsT → RowsT := @Cls.rec (fun _ => Cx → CallK → List Oper → Row → List Row → RowsT → RowsT) rowVal rowVal rowEff rowFresh c
noncomputable def runRowsK (cx : Cx) (K : CallK) (ops : List Oper) (l : List Row) : RowsT := @List.rec Row (fun _ => RowsT) rowNil (fun r l ih => rowStep r.cls cx K ops r l ih) l
theorem runRowsK_eq (cx : Cx) (K : CallK) (ops : List Oper) : ∀ (l : List Row), runRowsK cx K ops l = runRows cx K ops l
  | [] => rfl
  | r :: l => by
    funext F S ps snaps id
    have e : runRowsK cx K ops l = runRows cx K ops l := runRowsK_eq cx K ops l
    show rowStep r.cls cx K ops r l (runRowsK cx K ops l) F S ps snaps id = (match r.cls with
      | .fresh => match wanted ops F r.o with
        | some true => match freshV cx F id r.o.op with
          | some (v, x) => runRows cx K ops l (putD F r.o.dst v) S (⟨r.i, id, x⟩ :: ps) snaps (Nat.succ id)
          | none => .err 1001
        | some false => runRows cx K ops l (putD F r.o.dst .undef) S ps snaps id
        | none => .err 1002
      | .eff => Res.bind (Res.sole (one cx K ops r.o F (commit (fun p => bit r.bef p.i) ps S))) fun q => cond q.1 (cond (allL (fun q => bit q.bef r.i) l) (.ok (some (r.i, q.2.1, q.2.2), F, S, S :: snaps) []) (.err 1007)) (runRows cx K ops l (putD F r.o.dst q.2.1) q.2.2 (filL (fun p => !bit r.bef p.i) ps) (S :: snaps) id)
      | _ => match oneV cx ops F S r.o with
        | some v => runRows cx K ops l (putD F r.o.dst v) S ps snaps id
        | none => .err 1006)
    rw [e]
    have val : rowVal cx K ops r l (runRows cx K ops l) F S ps snaps id = (match oneV cx ops F S r.o with
        | some v => runRows cx K ops l (putD F r.o.dst v) S ps snaps id
        | none => .err 1006) := by
      unfold rowVal rowValV
      rw [oneVK_eq]
      cases oneV cx ops F S r.o with
      | none => rfl
      | some v =>
        show headV v _ _ = _
        rw [headV_eq]
        cases v <;> rfl
    cases r.cls with
    | pure => exact val
    | read => exact val
    | eff =>
      show rowEff cx K ops r l (runRows cx K ops l) F S ps snaps id = _
      unfold rowEff
      rw [oneK_eq]
      congr 1
      funext q
      obtain ⟨b, v, S'⟩ := q
      cases b with
      | true => rfl
      | false =>
        have h0 : rowEffP l r.i S r.o.dst (runRows cx K ops l) F (filL (fun p => !bit r.bef p.i) ps) (S :: snaps) id (false, v, S') = headS S' (fun S2 => headV v (fun v => runRows cx K ops l (putD F r.o.dst v) S2 (filL (fun p => !bit r.bef p.i) ps) (S :: snaps) id) (fun x => runRows cx K ops l (putD F r.o.dst (.pan x)) S2 (filL (fun p => !bit r.bef p.i) ps) (S :: snaps) id)) := rfl
        rw [h0, headS_eq, headV_eq]
        cases v <;> rfl
    | fresh =>
      show rowFresh cx K ops r l (runRows cx K ops l) F S ps snaps id = _
      unfold rowFresh rowFreshB
      rw [freshK_eq]
      cases wanted ops F r.o with
      | none => rfl
      | some b =>
        cases b with
        | false => rfl
        | true => cases freshV cx F id r.o.op <;> rfl
noncomputable def sameAt (cx : Cx) (ops : List Oper) (F : Fr) (o : Oper) (v : AV) (S : AS) : Bool := match oneVK cx ops F S o with
        | some u => sameVF 8 v u
        | none => false
noncomputable def windowK (cx : Cx) (ops : List Oper) (rows : List Row) (F : Fr) (snaps : List AS) (r : Row) : Bool :=
  let effs := filL (fun e => isEff e.cls) rows
  let lo := countL (fun e => bit r.bef e.i) effs
  let hi := countL (fun e => !bit e.bef r.i) effs
  let may := takeN (Nat.succ (Nat.sub hi lo)) (dropN lo snaps)
  match may with
  | [_] => true
  | _ => match r.o.dst with
    | some d => cond (Nat.blt d F.n) (match F.t.get d with
      | some v => allL (sameAt cx ops F r.o v) may
      | none => false) false
    | none => false
theorem windowK_eq (cx : Cx) (ops : List Oper) (rows : List Row) (F : Fr) (snaps : List AS) (r : Row) : windowK cx ops rows F snaps r = windowOk cx ops rows F snaps r := by
  unfold windowK windowOk sameAt
  simp only [oneVK_eq]
  rfl
noncomputable def winAllK (cx : Cx) (ops : List Oper) (rows : List Row) (F : Fr) (snaps : List AS) : Bool := allL (fun q => cond (isRead q.cls) (windowK cx ops rows F snaps q) true) rows
theorem winAllK_eq (cx : Cx) (ops : List Oper) (rows : List Row) (F : Fr) (snaps : List AS) : winAllK cx ops rows F snaps = winAll cx ops rows F snaps := by
  unfold winAllK winAll
  simp only [windowK_eq]
noncomputable def drawnEnd (cx : Cx) (ops : List Oper) (rows : List Row) (r : RowsR) : Res (Option AV × Fr × AS) :=
  match r.1 with
  | none => cond (winAllK cx ops rows r.2.1 (revL r.2.2.2)) (.ok (none, r.2.1, r.2.2.1) []) (.err 1003)
  | some (i, v, S) => cond (winAllK cx ops (takeN i rows) r.2.1 (revL r.2.2.2)) (.ok (some v, topF rows r.2.1, S) []) (.err 1003)
theorem drawnEnd_eq (cx : Cx) (ops : List Oper) (rows : List Row) (r : RowsR) : drawnEnd cx ops rows r = endRows cx ops rows r := by
  unfold drawnEnd endRows
  obtain ⟨o, F, S, sn⟩ := r
  cases o with
  | none => simp only [winAllK_eq]
  | some p => simp only [winAllK_eq]
noncomputable def drawnGo (cx : Cx) (K : CallK) (ops : List Oper) (F : Fr) (S : AS) (rows : List Row) : Res (Option AV × Fr × AS) :=
  cond (planOk ops rows) (Res.bind (runRowsK cx K ops rows F ⟨S.h, Nat.add S.next (countL (fun r => isFresh r.cls) rows)⟩ [] [] S.next) (drawnEnd cx ops rows)) (.err 1004)
noncomputable def runDrawnK (cx : Cx) (K : CallK) (ops : List Oper) (F : Fr) (S : AS) : Res (Option AV × Fr × AS) := drawnGo cx K ops F S (settle (rowsL cx ops))
theorem runDrawnK_eq (cx : Cx) (K : CallK) (ops : List Oper) (F : Fr) (S : AS) : runDrawnK cx K ops F S = runDrawn cx K ops F S := by
  unfold runDrawnK drawnGo runDrawn
  simp only [runRowsK_eq]
  congr 2
  funext r
  exact drawnEnd_eq _ _ _ _

/-! ### Code -/
abbrev Ih := Code → Fr → AS → Res Out
noncomputable def e_region (id : Nat) (ops : Array Oper) (draw : Bool) (cx : Cx) (n : Nat) (ih : Ih) (F : Fr) (S : AS) : Res Out :=
  cond draw (Res.bind (runDrawnK cx (callF cx ih) ops.toList F S) fun r => match r.1 with
      | none => .ok ⟨.normal, r.2.1, r.2.2⟩ []
      | some v => .ok ⟨.pan v, r.2.1, r.2.2⟩ [])
    (Res.bind (runOpsK cx (callF cx ih) ops.toList ops.toList F S) fun r => match r.1 with
      | none => .ok ⟨.normal, r.2.1, r.2.2⟩ []
      | some v => .ok ⟨.pan v, r.2.1, r.2.2⟩ [])
noncomputable def e_seq (a b : Code) (cx : Cx) (n : Nat) (ih : Ih) (F : Fr) (S : AS) : Res Out := Res.bind (ih a F S) fun o => match o.ex with
      | .normal => ih b o.F o.S
      | _ => .ok o []
noncomputable def e_cond (x : Operand) (a b : Code) (cx : Cx) (n : Nat) (ih : Ih) (F : Fr) (S : AS) : Res Out := match eval F x with
      | .bool true => ih a F S
      | .bool false => ih b F S
      | _ => .err 3001
noncomputable def e_block (id : Nat) (b : Code) (cx : Cx) (n : Nat) (ih : Ih) (F : Fr) (S : AS) : Res Out := Res.bind (ih b F S) fun o => match o.ex with
      | .exit j => cond (Nat.beq j id) (.ok ⟨.normal, o.F, o.S⟩ []) (.ok o [])
      | _ => .ok o []
noncomputable def e_loop (b : Code) (cx : Cx) (n : Nat) (ih : Ih) (F : Fr) (S : AS) : Res Out := Res.bind (ih b F S) fun o => match o.ex with
      | .normal => ih (.loop b) o.F o.S
      | _ => .ok o []
def e_skip (cx : Cx) (n : Nat) (ih : Ih) (F : Fr) (S : AS) : Res Out := .ok ⟨.normal, F, S⟩ []
def e_ret (cx : Cx) (n : Nat) (ih : Ih) (F : Fr) (S : AS) : Res Out := .ok ⟨.ret, F, S⟩ []
def e_exit (id : Nat) (cx : Cx) (n : Nat) (ih : Ih) (F : Fr) (S : AS) : Res Out := .ok ⟨.exit id, F, S⟩ []
noncomputable def e_scope (b : Code) (cx : Cx) (n : Nat) (ih : Ih) (F : Fr) (S : AS) : Res Out := scopeF ih b n b F S
def e_label (l : Nat) (cx : Cx) (n : Nat) (ih : Ih) (F : Fr) (S : AS) : Res Out := .ok ⟨.normal, F, S⟩ []
def e_goto (l : Nat) (cx : Cx) (n : Nat) (ih : Ih) (F : Fr) (S : AS) : Res Out := .ok ⟨.goto l, F, S⟩ []
noncomputable def e_range (x : Operand) (ps : Array Tmp) (a b : Code) (cx : Cx) (n : Nat) (ih : Ih) (F : Fr) (S : AS) : Res Out := rangeF cx ih x ps a b F S
def e_refuse (s : String) (cx : Cx) (n : Nat) (ih : Ih) (F : Fr) (S : AS) : Res Out := .err 3002
noncomputable def stepK (c : Code) : Cx → Nat → Ih → Fr → AS → Res Out :=
  @Code.casesOn (fun _ => Cx → Nat → Ih → Fr → AS → Res Out) c e_skip e_region e_seq e_cond e_block e_loop e_range e_exit e_scope e_label e_goto e_ret e_refuse
noncomputable def execK (cx : Cx) (n : Nat) : Code → Fr → AS → Res Out :=
  Nat.rec (motive := fun _ => Code → Fr → AS → Res Out) (fun _ _ _ => .err 3000) (fun n ih c F S => stepK c cx n ih F S) n
theorem execK_eq (cx : Cx) : ∀ n, execK cx n = exec cx n := by
  intro n
  induction n with
  | zero => rfl
  | succ n ih =>
    funext c F S
    have e1 : execK cx (n + 1) c F S = stepK c cx n (execK cx n) F S := rfl
    rw [e1, ih]
    cases c with
    | region id ops draw =>
      cases draw with
      | true =>
        show (Res.bind (runDrawnK cx (callF cx (exec cx n)) ops.toList F S) _) = Res.bind (runDrawn cx (callF cx (exec cx n)) ops.toList F S) _
        rw [runDrawnK_eq]
        rfl
      | false =>
        show (Res.bind (runOpsK cx (callF cx (exec cx n)) ops.toList ops.toList F S) _) = Res.bind (runOps cx (callF cx (exec cx n)) ops.toList ops.toList F S) _
        rw [runOpsK_eq]
        rfl
    | _ => rfl
noncomputable def callK (cx : Cx) (n : Nat) (f : FuncId) (as : List AV) (S : AS) : Res (AV × AS) := callF cx (execK cx n) (.fn f) as S
noncomputable def saysK (P : Program) (A : Ask) (n : Nat) (f : FuncId) (b : Bool) : Bool := isB b (callK (mkCx P A) n f [] ⟨.leaf, 0⟩)
theorem saysK_eq (P : Program) (A : Ask) (n : Nat) (f : FuncId) (b : Bool) : saysK P A n f b = says P A n f b := by
  unfold saysK callK says call
  rw [execK_eq]
end Go.Am

namespace Go.Am
open Go Go.RowKit

/-- A call without arguments that the machine answers by one bool: by the fast text. -/
theorem call_fast {Λ : LB} {P : Program} {A : Ask} (h : Ready P A) (hp : ∀ x, x ∈ A.prims → PrimOk Λ P x.1 x.2) (hg : ∀ x, x ∈ A.globs → GlobOk Λ.w Λ.B x.1 x.2) (n : Nat) (f : FuncId) (b : Bool)
    (hs : true = saysK P A n f b) (w : World) (hz : Λ.w.heap.size ≤ w.heap.size) (hb : ∀ b, Λ.B b → b < Λ.w.heap.size ∧ w.heap[b]? = Λ.w.heap[b]?) :
    Calls P f #[] w fun e w' => e = .returned (.bool b) ∧ Below w.heap.size w w' :=
  call_bool_at h hp hg n f b (hs.trans (saysK_eq P A n f b)) w hz hb
/-- .. where nothing is known of the world. -/
theorem call_fast0 {P : Program} {A : Ask} (h : Ready P A) (hp : ∀ Λ : LB, ∀ x, x ∈ A.prims → PrimOk Λ P x.1 x.2) (hg : A.globs = []) (n : Nat) (f : FuncId) (b : Bool) (hs : true = saysK P A n f b) (w : World) :
    Calls P f #[] w fun e w' => e = .returned (.bool b) ∧ Below w.heap.size w w' :=
  call_fast (Λ := ⟨w, fun _ => False⟩) h (hp _) (by rw [hg]; intro x hx; cases hx) n f b hs w (Nat.le_refl _) (fun _ hb => hb.elim)

end Go.Am
