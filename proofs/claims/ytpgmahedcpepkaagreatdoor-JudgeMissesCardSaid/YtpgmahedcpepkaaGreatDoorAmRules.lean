/-
  The abstract machine: its operations one by one, as rules for simp.
  The abstract machine: a function whose answer is known becomes one that the machine need not enter.
-/
import Derived.Test.YtpgmahedcpepkaaGreatDoorAmMono
import Derived.IntWalk
namespace Go.Am
open Go

section
variable {cx : Cx} {ops : List Oper} {o : Oper} {l : List Oper} {F : Fr} {S : AS} {Q : Fr → AS → Prop} {K : AV → AS → Prop}

theorem opsP_nil : opsP cx ops [] F S Q = Q F S := rfl
/-- What is left of a region. (Under a name: simp goes into no function that bears one.) -/
def kont (cx : Cx) (ops l : List Oper) (F : Fr) (d : Option Nat) (Q : Fr → AS → Prop) (v : AV) (S' : AS) : Prop := opsP cx ops l (up F d v) S' Q
theorem kont_app {d : Option Nat} {v : AV} {S' : AS} : kont cx ops l F d Q v S' = opsP cx ops l (up F d v) S' Q := rfl
theorem opsP_cons : opsP cx ops (o :: l) F S Q = stepP cx ops o F S (kont cx ops l F o.dst Q) := rfl
theorem stepP_free {dst : Option Tmp} {op : Op} {ty : TypeId} {pos : String} {af : Array Edge} : stepP cx ops ⟨dst, op, ty, pos, af, none⟩ F S K = runP cx (aop cx F S ⟨dst, op, ty, pos, af, none⟩) K := by
  simp [stepP, wantS]
theorem stepP_guard {dst : Option Tmp} {op : Op} {ty : TypeId} {pos : String} {af : Array Edge} {j : Nat} {w : Bool} : stepP cx ops ⟨dst, op, ty, pos, af, some (j, w)⟩ F S K =
    (match wantS ops F (some (j, w)) with
     | some b => (b = true → runP cx (aop cx F S ⟨dst, op, ty, pos, af, some (j, w)⟩) K) ∧ (b = false → K .undef S)
     | none => False) := rfl
/-- The slot of an operation in a row of them. -/
def slotAt : List Oper → Nat → Option Nat
  | [], _ => none
  | o :: _, 0 => o.dst
  | _ :: l, n + 1 => slotAt l n
theorem slotAt_zero {o : Oper} {l : List Oper} : slotAt (o :: l) 0 = o.dst := rfl
theorem slotAt_succ {o : Oper} {l : List Oper} {n : Nat} : slotAt (o :: l) (n + 1) = slotAt l n := rfl
theorem slotAt_get : ∀ (l : List Oper) (j d : Nat), slotAt l j = some d → ∃ p, l[j]? = some p ∧ p.dst = some d
  | [], _, _, h => by cases h
  | o :: l, 0, d, h => ⟨o, rfl, h⟩
  | o :: l, n + 1, d, h => by simpa using slotAt_get l n d h
theorem wantS_slot {j d : Nat} {w b : Bool} (h1 : slotAt ops j = some d) (h2 : sl F d = .bool b) : wantS ops F (some (j, w)) = some (cond w b (!b)) := by
  obtain ⟨p, e1, e2⟩ := slotAt_get ops j d h1
  simp [wantS, e1, e2, h2]
theorem wantS_some {j d : Nat} {w b : Bool} {p : Oper} (h1 : ops[j]? = some p) (h2 : p.dst = some d) (h3 : sl F d = .bool b) : wantS ops F (some (j, w)) = some (cond w b (!b)) := by
  simp [wantS, h1, h2, h3]
theorem stepP_run {dst : Option Tmp} {op : Op} {ty : TypeId} {pos : String} {af : Array Edge} {j d : Nat} {w b : Bool} (h1 : slotAt ops j = some d) (h2 : sl F d = .bool b) (h3 : (b == w) = true) :
    stepP cx ops ⟨dst, op, ty, pos, af, some (j, w)⟩ F S K = runP cx (aop cx F S ⟨dst, op, ty, pos, af, some (j, w)⟩) K := by
  have hw := wantS_slot (w := w) h1 h2
  obtain rfl : b = w := by simpa using h3
  rw [stepP_guard, hw]
  cases b <;> simp
theorem stepP_skip {dst : Option Tmp} {op : Op} {ty : TypeId} {pos : String} {af : Array Edge} {j d : Nat} {w b : Bool} (h1 : slotAt ops j = some d) (h2 : sl F d = .bool b) (h3 : (b == !w) = true) :
    stepP cx ops ⟨dst, op, ty, pos, af, some (j, w)⟩ F S K = K .undef S := by
  have hw := wantS_slot (w := w) h1 h2
  obtain rfl : b = !w := by simpa using h3
  rw [stepP_guard, hw]
  cases w <;> simp
theorem stepP_undef {dst : Option Tmp} {op : Op} {ty : TypeId} {pos : String} {af : Array Edge} {j d : Nat} {w : Bool} (h1 : slotAt ops j = some d) (h2 : sl F d = .undef) :
    stepP cx ops ⟨dst, op, ty, pos, af, some (j, w)⟩ F S K = K .undef S := by
  obtain ⟨p, e1, e2⟩ := slotAt_get ops j d h1
  have hw : wantS ops F (some (j, w)) = some false := by simp [wantS, e1, e2, h2, AV.undef]
  rw [stepP_guard, hw]
  simp
theorem runP_val {v : AV} {S' : AS} : runP cx (.val v S') K = K v S' := rfl
theorem runP_enter {f : FuncId} {as : List AV} {S' : AS} : runP cx (.enter f as S') K = CallW cx f as S' K := rfl
theorem runP_err {n : Nat} : runP cx (.err n) K = False := rfl

variable {dst : Option Tmp} {ty : TypeId} {pos : String} {af : Array Edge} {g : Option (Nat × Bool)}
theorem aop_move {x : Operand} : aop cx F S ⟨dst, .move x, ty, pos, af, g⟩ = .val (eval F x) S := rfl
theorem aop_assign {x : Operand} : aop cx F S ⟨dst, .assign x, ty, pos, af, g⟩ = .val (eval F x) S := rfl
def pickR (c a b : AV) (S : AS) : AR := match c with | .bool true => .val a S | .bool false => .val b S | _ => .err 20
theorem aop_pick {c a b : Operand} : aop cx F S ⟨dst, .pick c a b, ty, pos, af, g⟩ = pickR (eval F c) (eval F a) (eval F b) S := rfl
theorem pickR_true {a b : AV} : pickR (.bool true) a b S = .val a S := rfl
theorem pickR_false {a b : AV} : pickR (.bool false) a b S = .val b S := rfl
theorem aop_bin {op : BinOp} {t u : TypeId} {x y : Operand} : aop cx F S ⟨dst, .binOp op t x y u, ty, pos, af, g⟩ = val? (binV cx op t ((x matches .const _) || (y matches .const _)) (eval F x) (eval F y)) S 40 := rfl
theorem aop_un {op : UnOp} {t : TypeId} {x : Operand} : aop cx F S ⟨dst, .unOp op t x, ty, pos, af, g⟩ = val? (unV op (eval F x)) S 41 := rfl
theorem val?_some {v : AV} {n : Nat} : val? (some v) S n = .val v S := rfl
theorem vals?_some {v : AV} {S' : AS} {n : Nat} : vals? (some (v, S')) n = .val v S' := rfl
theorem aop_extract {x : Operand} {i : Nat} : aop cx F S ⟨dst, .extract x i, ty, pos, af, g⟩ = (match eval F x with | .tuple vs => val? (nth i vs) S 82 | _ => .err 83) := rfl
theorem aop_call {f : Operand} {as : Array Operand} {ats : Array TypeId} : aop cx F S ⟨dst, .call ⟨.value f, as, ats⟩, ty, pos, af, g⟩ = callV cx S (eval F f) (args F as) := rfl
theorem aop_builtin {b : Builtin} {as : Array Operand} {ats : Array TypeId} : aop cx F S ⟨dst, .call ⟨.builtin b, as, ats⟩, ty, pos, af, g⟩ = builtinV cx S b ats.toList (args F as) := rfl
theorem args_eq {as : Array Operand} : args F as = as.toList.map (eval F) := by unfold args; rw [mapL_eq]
theorem callV_func {f : FuncId} {first captured as : List AV} (h : cx.exts.get f = none) : callV cx S (.func (.func f) first captured) as = .enter f (first ++ (as ++ captured)) S := by
  simp only [callV, h, appL_eq]
theorem aop_alloc {e : TypeId} : aop cx F S ⟨dst, .alloc e, ty, pos, af, g⟩ = freshR (freshV cx F S.next (.alloc e)) S 21 := rfl
theorem aop_box {t : TypeId} {x : Operand} : aop cx F S ⟨dst, .box t x, ty, pos, af, g⟩ = freshR (freshV cx F S.next (.box t x)) S 23 := rfl
theorem aop_build {t : TypeId} {ps : Array (Nat × Operand)} : aop cx F S ⟨dst, .build t ps, ty, pos, af, g⟩ = val? (buildV cx F t ps.toList) S 24 := rfl
theorem aop_buildSlice {t : TypeId} {n : Nat} {ps : Array (Nat × Operand)} : aop cx F S ⟨dst, .buildSlice t n ps, ty, pos, af, g⟩ = freshR (freshV cx F S.next (.buildSlice t n ps)) S 25 := rfl
theorem aop_makeMap {t : TypeId} {r : Option Operand} : aop cx F S ⟨dst, .makeMap t r, ty, pos, af, g⟩ = freshR (freshV cx F S.next (.makeMap t r)) S 48 := rfl
theorem aop_makeSlice {t : TypeId} {a b : Operand} : aop cx F S ⟨dst, .makeSlice t a b, ty, pos, af, g⟩ = freshR (freshV cx F S.next (.makeSlice t a b)) S 49 := rfl
theorem freshR_some {v : AV} {o : AObj} {n : Nat} : freshR (some (v, o)) S n = .val v ⟨S.h.set S.next o, S.next + 1⟩ := rfl
theorem aop_makeFunc {fn : Fn} {a b : Array Operand} : aop cx F S ⟨dst, .makeFunc fn a b, ty, pos, af, g⟩ = .val (.func fn (args F a) (args F b)) S := rfl
theorem aop_lookup {t : TypeId} {x i : Operand} {ok : Bool} : aop cx F S ⟨dst, .lookup t x i ok, ty, pos, af, g⟩ = val? (lookupV cx S t (eval F x) (eval F i) ok) S 71 := rfl
theorem aop_mapUpdate {t : TypeId} {m k v : Operand} : aop cx F S ⟨dst, .mapUpdate t m k v, ty, pos, af, g⟩ = vals? (updateV cx S t (eval F m) (eval F k) (eval F v)) 78 := rfl
theorem aop_assert {x : Operand} {t u : TypeId} {ok : Bool} : aop cx F S ⟨dst, .typeAssert x t u ok, ty, pos, af, g⟩ = val? (assertV cx (eval F x) u ok) S 85 := rfl
theorem aop_slice {t : TypeId} {x : Operand} {a b c : Option Operand} : aop cx F S ⟨dst, .slice t x a b c, ty, pos, af, g⟩ = val? (sliceV cx F t (eval F x) a b c) S 53 := rfl
theorem aop_load {t : TypeId} {x : Operand} {id gn off lim : Nat} {v : AV} (hx : eval F x = .ptr id gn off lim) (h : loadV cx S t (.ptr id gn off lim) = some v) : aop cx F S ⟨dst, .load t x, ty, pos, af, g⟩ = .val v S := by
  unfold loadV at h
  simp only [aop, hx]
  simp only at h
  cases ha : aggOf cx t with
  | none => simp [ha] at h
  | some b =>
    cases b with
    | true =>
      simp only [ha] at h ⊢
      cases hs : szOf cx t with
      | none => simp [hs] at h
      | some n =>
        simp only [hs] at h ⊢
        cases hr : rd S id gn off n lim with
        | none => simp [hr] at h
        | some cs => simp only [hr, Option.some.injEq] at h ⊢; rw [h]
    | false =>
      simp only [ha] at h ⊢
      split at h
      · rename_i u hr
        simp only [Option.some.injEq] at h
        subst h
        rw [hr]
      · cases h
theorem aop_store {t : TypeId} {x y : Operand} {id gn off lim n : Nat} {cs : List AV} {S' : AS} (hx : eval F x = .ptr id gn off lim) (hy : cellsOf (eval F y) = some cs) (hs : szOf cx t = some n) (hl : cs.length = n)
    (hw : wr S id gn off lim cs = some S') : aop cx F S ⟨dst, .store t x y, ty, pos, af, g⟩ = .val .undef S' := by
  simp only [aop, hx, hy, hs, hw, nbeq, lenL_eq, hl, decide_true, cond_true]
theorem aop_nilCheck_ptr {x : Operand} {i gn o l : Nat} (hx : eval F x = .ptr i gn o l) : aop cx F S ⟨dst, .nilCheck x, ty, pos, af, g⟩ = .val (.ptr i gn o l) S := by simp only [aop, hx]
theorem aop_nilCheck_func {x : Operand} {f : FuncId} {a b : List AV} (hx : eval F x = .func (.func f) a b) : aop cx F S ⟨dst, .nilCheck x, ty, pos, af, g⟩ = .val (.func (.func f) a b) S := by simp only [aop, hx]
theorem aop_mkiface {t : TypeId} {x : Operand} {d : TypeDesc} (h : und cx t = some d) (hn : (match d with | .interface _ => false | _ => true) = true) : aop cx F S ⟨dst, .makeInterface t x, ty, pos, af, g⟩ = .val (.iface t (eval F x)) S := by
  simp only [aop, h]
  cases d <;> first | rfl | cases hn
theorem aop_fieldAddr {s : TypeId} {x : Operand} {f id gn off lim z : Nat} {fs : Array Field} {fd : Field} (hx : eval F x = .ptr id gn off lim) (hu : und cx s = some (.struct fs)) (hf : fs[f]? = some fd) (hz : szOf cx fd.type = some (z + 1)) :
    aop cx F S ⟨dst, .fieldAddr s x f, ty, pos, af, g⟩ = .val (.ptr id gn (off + fd.offset) lim) S := by
  have hf' : nth f fs.toList = some fd := by rw [nth_eq, Array.getElem?_toList]; exact hf
  simp only [aop, hu, hx, hf', hz, forceN_eq]; rfl
theorem aop_field {t : TypeId} {x : Operand} {f : Nat} {cs : List AV} {fs : Array Field} {fd : Field} (hx : eval F x = .agg cs) (hu : und cx t = some (.struct fs)) (hf : fs[f]? = some fd) :
    aop cx F S ⟨dst, .field t x f, ty, pos, af, g⟩ = val? (partOf cx fd.type cs fd.offset) S 57 := by
  have hf' : nth f fs.toList = some fd := by rw [nth_eq, Array.getElem?_toList]; exact hf
  simp only [aop, hu, hx, hf']
theorem aop_indexAddr {t e : TypeId} {x ix : Operand} {id gn off len lim z i : Nat} {cap : Option Nat} {k : IntKind} {n : Int} (hx : eval F x = .slice id gn off len lim z cap) (hu : und cx t = some (.slice e)) (hz : szOf cx e = some z)
    (hi : eval F ix = .int k n) (hn : n = (i : Int)) (hl : i < len) : aop cx F S ⟨dst, .indexAddr t x ix, ty, pos, af, g⟩ = .val (.ptr id gn (off + i * z) lim) S := by
  subst hn
  simp only [aop, hu, hx, hi, natOf, hz, nbeq, nblt, hl, decide_true, Bool.and_self, cond_true, forceN_eq]; rfl
theorem aop_index_str {t : TypeId} {x ix : Operand} {s : List Nat} {i c : Nat} {k : IntKind} {n : Int} (hx : eval F x = .str s) (hu : und cx t = some .string) (hi : eval F ix = .int k n) (hn : n = (i : Int)) (hc : s[i]? = some c) :
    aop cx F S ⟨dst, .index t x ix, ty, pos, af, g⟩ = .val (.int .u8 c) S := by
  subst hn
  have hc' : nth i s = some c := by rw [nth_eq]; exact hc
  simp only [aop, hu, hx, hi, natOf, hc']; rfl
theorem aop_conv_int {s d : TypeId} {x : Operand} {k j : IntKind} {n : Int} {e : TypeDesc} (hs : und cx s = some e) (hd : und cx d = some (.int k)) (hx : eval F x = .int j n) : aop cx F S ⟨dst, .convert s d x, ty, pos, af, g⟩ = .val (.int k (k.wrap n)) S := by
  simp only [aop, hs, hd, hx, mkI_eq]
theorem len_slice {t : TypeId} {ts : List TypeId} {e : TypeId} {as : List AV} {id gn off len lim z : Nat} {cap : Option Nat} (hu : und cx t = some (.slice e)) : builtinV cx S .len (t :: ts) (.slice id gn off len lim z cap :: as) = .val (.int .i64 len) S := by
  simp only [builtinV, lenV, hu, forceN_eq]; rfl
theorem len_nils {t : TypeId} {ts : List TypeId} {e : TypeId} {as : List AV} (hu : und cx t = some (.slice e)) : builtinV cx S .len (t :: ts) (.nils :: as) = .val (.int .i64 0) S := by
  simp only [builtinV, lenV, hu, forceN_eq]; rfl
theorem len_str {t : TypeId} {ts : List TypeId} {as : List AV} {s : List Nat} (hu : und cx t = some .string) : builtinV cx S .len (t :: ts) (.str s :: as) = .val (.int .i64 s.length) S := by
  simp only [builtinV, lenV, hu, forceN_eq]; rfl
end

/-! ### Numbers -/
section
variable {cx : Cx} {t : TypeId} {c : Bool} {k : IntKind} {a b : Int}
theorem bin_add : binV cx .add t c (.int k a) (.int k b) = some (.int k (k.wrap (a + b))) := by simp [binV, kindEq_eq, binI, mkI_eq]
theorem bin_sub : binV cx .sub t c (.int k a) (.int k b) = some (.int k (k.wrap (a - b))) := by simp [binV, kindEq_eq, binI, mkI_eq]; rfl
theorem bin_mul : binV cx .mul t c (.int k a) (.int k b) = some (.int k (k.wrap (a * b))) := by simp [binV, kindEq_eq, binI, mkI_eq]
theorem bin_quo (h : b ≠ 0) : binV cx .quo t c (.int k a) (.int k b) = some (.int k (k.wrap (a.tdiv b))) := by
  have : eqI b 0 = false := by rw [eqI_eq]; simpa using h
  simp [binV, kindEq_eq, binI, mkI_eq, this]
theorem bin_rem (h : b ≠ 0) : binV cx .rem t c (.int k a) (.int k b) = some (.int k (a.tmod b)) := by
  have : eqI b 0 = false := by rw [eqI_eq]; simpa using h
  simp [binV, kindEq_eq, binI, forceI_eq, this]
theorem bin_eql : binV cx .eql t c (.int k a) (.int k b) = some (.bool (decide (a = b))) := by simp [binV, kindEq_eq, binI, eqI_eq]
theorem bin_neq : binV cx .neq t c (.int k a) (.int k b) = some (.bool (!decide (a = b))) := by simp [binV, kindEq_eq, binI, eqI_eq]
theorem bin_lss : binV cx .lss t c (.int k a) (.int k b) = some (.bool (decide (a < b))) := by simp [binV, kindEq_eq, binI, ltI_eq]
theorem bin_leq : binV cx .leq t c (.int k a) (.int k b) = some (.bool (decide (a ≤ b))) := by
  simp only [binV, kindEq_eq, binI, ltI_eq, decide_true, cond_true, Option.some.injEq, AV.bool.injEq]
  by_cases h : a ≤ b <;> simp [h] <;> omega
theorem bin_gtr : binV cx .gtr t c (.int k a) (.int k b) = some (.bool (decide (b < a))) := by simp [binV, kindEq_eq, binI, ltI_eq]
theorem bin_geq : binV cx .geq t c (.int k a) (.int k b) = some (.bool (decide (b ≤ a))) := by
  simp only [binV, kindEq_eq, binI, ltI_eq, decide_true, cond_true, Option.some.injEq, AV.bool.injEq]
  by_cases h : b ≤ a <;> simp [h] <;> omega
theorem bin_eql_bool {x y : Bool} (h : und cx t = some .bool) : binV cx .eql t c (.bool x) (.bool y) = some (.bool (x == y)) := by
  have e : eqT cx 6 t (.bool x) (.bool y) = some (x == y) := by
    show (match und cx t with | none => none | some d => eqStep cx (eqT cx 5) t d (.bool x) (.bool y)) = _
    rw [h]; rfl
  simp [binV, eqV, oddA, e]
theorem bin_neq_bool {x y : Bool} (h : und cx t = some .bool) : binV cx .neq t c (.bool x) (.bool y) = some (.bool (!(x == y))) := by
  have e : eqT cx 6 t (.bool x) (.bool y) = some (x == y) := by
    show (match und cx t with | none => none | some d => eqStep cx (eqT cx 5) t d (.bool x) (.bool y)) = _
    rw [h]; rfl
  simp [binV, eqV, oddA, e]
theorem un_not {x : Bool} : unV .not (.bool x) = some (.bool (!x)) := rfl
end

/-! ### Cuts -/
theorem runP_mono {cx : Cx} {r : AR} {K K' : AV → AS → Prop} (h : runP cx r K) (k : ∀ v S', K v S' → K' v S') : runP cx r K' := by
  unfold runP at h ⊢
  cases r with
  | val v S' => exact k _ _ h
  | enter f as S' => exact h.mono k
  | err n => exact h
  | round f as S' => exact h
  | pan v S' => exact h
  | many l => exact h
theorem stepP_mono {cx : Cx} {ops : List Oper} {o : Oper} {F : Fr} {S : AS} {K K' : AV → AS → Prop} (h : stepP cx ops o F S K) (k : ∀ v S', K v S' → K' v S') : stepP cx ops o F S K' := by
  unfold stepP at h ⊢
  cases hw : wantS ops F o.guard with
  | none => rw [hw] at h; exact h
  | some b => rw [hw] at h; exact ⟨fun hb => runP_mono (h.1 hb) k, fun hb => k _ _ (h.2 hb)⟩
theorem opsP_mono {cx : Cx} {ops : List Oper} {Q Q' : Fr → AS → Prop} : ∀ {l : List Oper} {F : Fr} {S : AS}, opsP cx ops l F S Q → (∀ F' S', Q F' S' → Q' F' S') → opsP cx ops l F S Q'
  | [], _, _, h, k => k _ _ h
  | _ :: _, _, _, h, k => stepP_mono h fun _ _ h' => opsP_mono h' k
section
variable {cx : Cx} {F : Fr} {S : AS} {Q : Ex → Fr → AS → Prop}
theorem s_seq {a b : Code} (h : wpP cx a F S (thenP (fun F' S' => wpP cx b F' S' Q) Q)) : wpP cx (.seq a b) F S Q := h
theorem s_block {id : Nat} {b : Code} (h : wpP cx b F S (blockP id Q)) : wpP cx (.block id b) F S Q := h
theorem s_loop {b : Code} (h : LoopP cx b F S Q) : wpP cx (.loop b) F S Q := h
theorem s_run {id : Nat} {l : List Oper} (h : opsP cx l l F S (Q .normal)) : wpP cx (.region id l.toArray false) F S Q := h
/-- A region, and what is known behind it. -/
theorem s_reg {id : Nat} {l : List Oper} (P : Fr → AS → Prop) (h : opsP cx l l F S P) (k : ∀ G T, P G T → Q .normal G T) : wpP cx (.region id l.toArray false) F S Q := opsP_mono h k
theorem s_cond {x : Operand} {a b : Code} {t : Bool} (hx : eval F x = .bool t) (h1 : t = true → wpP cx a F S Q) (h2 : t = false → wpP cx b F S Q) : wpP cx (.cond x a b) F S Q := by
  show condP (eval F x) (wpP cx a F S Q) (wpP cx b F S Q)
  rw [hx]; exact ⟨h1, h2⟩
theorem s_skip (h : Q .normal F S) : wpP cx .skip F S Q := h
theorem s_ret (h : Q .ret F S) : wpP cx .ret F S Q := h
theorem s_exit {id : Nat} (h : Q (.exit id) F S) : wpP cx (.exit id) F S Q := h
end

/-- What two frames have alike. -/
def agree : List Nat → Fr → Fr → Prop
  | [], _, _ => True
  | t :: l, F, G => sl F t = sl G t ∧ agree l F G
theorem agree_refl (F : Fr) : ∀ l, agree l F F
  | [] => trivial
  | _ :: l => ⟨rfl, agree_refl F l⟩
theorem agree_nil (F G : Fr) : agree [] F G = True := rfl
theorem agree_cons (t : Nat) (l : List Nat) (F G : Fr) : agree (t :: l) F G = (sl F t = sl G t ∧ agree l F G) := rfl
/-- The frame is forgotten but for some slots. -/
theorem forget (L : List Nat) {P : Fr → Prop} {F : Fr} (h : ∀ G, G.n = F.n → agree L G F → P G) : P F := h F rfl (agree_refl F L)

/-! ### What simp takes -/
theorem wpP_congr {cx : Cx} {c : Code} {F F' : Fr} {S S' : AS} {Q : Ex → Fr → AS → Prop} (h1 : F = F') (h2 : S = S') : wpP cx c F S Q = wpP cx c F' S' Q := by rw [h1, h2]
theorem drawnP_congr {cx : Cx} {ops : List Oper} {F F' : Fr} {S S' : AS} {Q : Fr → AS → Prop} (h1 : F = F') (h2 : S = S') : drawnP cx ops F S Q = drawnP cx ops F' S' Q := by rw [h1, h2]
theorem LoopP_congr {cx : Cx} {b : Code} {F F' : Fr} {S S' : AS} {Q : Ex → Fr → AS → Prop} (h1 : F = F') (h2 : S = S') : LoopP cx b F S Q = LoopP cx b F' S' Q := by rw [h1, h2]
theorem condP_congr {x x' : AV} {A B : Prop} (h : x = x') : condP x A B = condP x' A B := by rw [h]
section
variable {cx : Cx} {F : Fr} {S : AS} {Q : Ex → Fr → AS → Prop}
theorem wpP_skip : wpP cx .skip F S Q = Q .normal F S := rfl
theorem wpP_ret : wpP cx .ret F S Q = Q .ret F S := rfl
theorem wpP_exit {id : Nat} : wpP cx (.exit id) F S Q = Q (.exit id) F S := rfl
theorem wpP_region {id : Nat} {l : List Oper} : wpP cx (.region id l.toArray false) F S Q = opsP cx l l F S (Q .normal) := rfl
theorem wpP_drawn {id : Nat} {l : List Oper} : wpP cx (.region id l.toArray true) F S Q = drawnP cx l F S (Q .normal) := rfl
def kcode (cx : Cx) (b : Code) (Q : Ex → Fr → AS → Prop) (F' : Fr) (S' : AS) : Prop := wpP cx b F' S' Q
theorem kcode_app {b : Code} {F' : Fr} {S' : AS} : kcode cx b Q F' S' = wpP cx b F' S' Q := rfl
theorem wpP_seq {a b : Code} : wpP cx (.seq a b) F S Q = wpP cx a F S (thenP (kcode cx b Q) Q) := rfl
theorem wpP_cond {x : Operand} {a b : Code} : wpP cx (.cond x a b) F S Q = condP (eval F x) (wpP cx a F S Q) (wpP cx b F S Q) := rfl
theorem wpP_scope {b : Code} : wpP cx (.scope b) F S Q = wpP cx b F S (scopeP Q) := rfl
theorem wpP_label {l : Nat} : wpP cx (.label l) F S Q = Q .normal F S := rfl
theorem wpP_block {id : Nat} {b : Code} : wpP cx (.block id b) F S Q = wpP cx b F S (blockP id Q) := rfl
theorem wpP_loop {b : Code} : wpP cx (.loop b) F S Q = LoopP cx b F S Q := rfl
theorem condP_true {A B : Prop} : condP (.bool true) A B = A := by simp [condP]
theorem condP_false {A B : Prop} : condP (.bool false) A B = B := by simp [condP]
theorem condP_bool {t : Bool} {A B : Prop} (h1 : t = true → A) (h2 : t = false → B) : condP (.bool t) A B := ⟨h1, h2⟩
theorem bodyP_ret {fn : Func} {K : AV → AS → Prop} : bodyP cx fn K .ret F S = endP (resL cx F S fn.results.toList |>.map fun vs => match vs with | [v] => v | vs => .tuple vs) S K := rfl
theorem bodyP_normal {fn : Func} {K : AV → AS → Prop} : bodyP cx fn K .normal F S = endP (resL cx F S fn.results.toList |>.map fun vs => match vs with | [v] => v | vs => .tuple vs) S K := rfl
theorem endP_some {v : AV} {K : AV → AS → Prop} : endP (some v) S K = (isPanB v = false ∧ K v S) := rfl
theorem np_undef  : isPanB (.undef : AV) = false := rfl
theorem np_bool {b : Bool} : isPanB (.bool b) = false := rfl
theorem np_int {k : IntKind} {n : Int} : isPanB (.int k n) = false := rfl
theorem np_str {l : List Nat} : isPanB (.str l) = false := rfl
theorem np_nilp  : isPanB .nilp = false := rfl
theorem np_ptr {a b c d : Nat} : isPanB (.ptr a b c d) = false := rfl
theorem np_glob {a b : Nat} : isPanB (.glob a b) = false := rfl
theorem np_nils  : isPanB .nils = false := rfl
theorem np_slice {a b c d e f : Nat} {g : Option Nat} : isPanB (.slice a b c d e f g) = false := rfl
theorem np_nilm  : isPanB .nilm = false := rfl
theorem np_map {a : Nat} : isPanB (.map a) = false := rfl
theorem np_func {f : Fn} {a b : List AV} : isPanB (.func f a b) = false := rfl
theorem np_nilf  : isPanB .nilf = false := rfl
theorem np_niface  : isPanB .niface = false := rfl
theorem np_iface {t : TypeId} {v : AV} : isPanB (.iface t v) = false := rfl
theorem np_agg {l : List AV} : isPanB (.agg l) = false := rfl
theorem np_tuple {l : List AV} : isPanB (.tuple l) = false := rfl
theorem np_obj {o : OK} {i : Nat} : isPanB (.obj o i) = false := rfl
theorem resL_nil : resL cx F S [] = some [] := rfl
theorem resL_tmp {t : Nat} {l : List ResultVar} : resL cx F S (.tmp t :: l) = (resL cx F S l).map (sl F t :: ·) := by
  show resStep cx F S (.tmp t) (resL cx F S l) = _
  cases resL cx F S l with
  | none => rfl
  | some vs => simp only [resStep, eval_tmp, Option.map_some]
theorem resL_cell {t : Nat} {ty : TypeId} {l : List ResultVar} : resL cx F S (.cell t ty :: l) = (resL cx F S l).bind fun vs => (loadV cx S ty (sl F t)).map (· :: vs) := by
  show resStep cx F S (.cell t ty) (resL cx F S l) = _
  cases resL cx F S l with
  | none => rfl
  | some vs =>
    simp only [resStep, eval_tmp, Option.bind_some]
    cases loadV cx S ty (sl F t) <;> rfl
end
theorem CallW_congr {cx : Cx} {f : FuncId} {as as' : List AV} {S S' : AS} {Q : AV → AS → Prop} (h1 : as = as') (h2 : S = S') : CallW cx f as S Q = CallW cx f as' S' Q := by rw [h1, h2]
theorem thenP_normal {R : Fr → AS → Prop} {Q : Ex → Fr → AS → Prop} {F : Fr} {S : AS} : thenP R Q .normal F S = R F S := rfl
theorem thenP_exit {R : Fr → AS → Prop} {Q : Ex → Fr → AS → Prop} {F : Fr} {S : AS} {i : Nat} : thenP R Q (.exit i) F S = Q (.exit i) F S := rfl
theorem thenP_ret {R : Fr → AS → Prop} {Q : Ex → Fr → AS → Prop} {F : Fr} {S : AS} : thenP R Q .ret F S = Q .ret F S := rfl
theorem scopeP_normal {Q : Ex → Fr → AS → Prop} {F : Fr} {S : AS} : scopeP Q .normal F S = Q .normal F S := rfl
theorem scopeP_ret {Q : Ex → Fr → AS → Prop} {F : Fr} {S : AS} : scopeP Q .ret F S = Q .ret F S := rfl
theorem scopeP_exit {Q : Ex → Fr → AS → Prop} {F : Fr} {S : AS} {i : Nat} : scopeP Q (.exit i) F S = Q (.exit i) F S := rfl
theorem blockP_normal {id : Nat} {Q : Ex → Fr → AS → Prop} {F : Fr} {S : AS} : blockP id Q .normal F S = Q .normal F S := rfl
theorem blockP_ret {id : Nat} {Q : Ex → Fr → AS → Prop} {F : Fr} {S : AS} : blockP id Q .ret F S = Q .ret F S := rfl
theorem blockP_exit {id j : Nat} {Q : Ex → Fr → AS → Prop} {F : Fr} {S : AS} : blockP id Q (.exit j) F S = if j = id then Q .normal F S else Q (.exit j) F S := rfl
theorem nth_lit {α : Type} (n : Nat) (l : List α) : nth n l = l[n]? := nth_eq n l

theorem opsP_congr {cx : Cx} {ops l : List Oper} {F F' : Fr} {S S' : AS} {Q : Fr → AS → Prop} (h1 : F = F') (h2 : S = S') : opsP cx ops l F S Q = opsP cx ops l F' S' Q := by rw [h1, h2]
theorem stepP_congr {cx : Cx} {ops : List Oper} {o : Oper} {F F' : Fr} {S S' : AS} {K : AV → AS → Prop} (h1 : F = F') (h2 : S = S') : stepP cx ops o F S K = stepP cx ops o F' S' K := by rw [h1, h2]
theorem runP_congr {cx : Cx} {r r' : AR} {K : AV → AS → Prop} (h1 : r = r') : runP cx r K = runP cx r' K := by rw [h1]
theorem wantS_congr {ops : List Oper} {F F' : Fr} {g : Option (Nat × Bool)} (h : F = F') : wantS ops F g = wantS ops F' g := by rw [h]
theorem slotAt_congr {ops : List Oper} {n m : Nat} (h : n = m) : slotAt ops n = slotAt ops m := by rw [h]
attribute [congr] wantS_congr slotAt_congr wpP_congr drawnP_congr LoopP_congr condP_congr CallW_congr opsP_congr stepP_congr runP_congr
attribute [simp] kont_app kcode_app agree_nil agree_cons wpP_skip wpP_ret wpP_exit wpP_region wpP_drawn wpP_seq wpP_cond wpP_block wpP_scope wpP_label scopeP_normal scopeP_ret scopeP_exit wpP_loop condP_true condP_false bodyP_ret bodyP_normal endP_some resL_nil resL_tmp resL_cell callW_prim np_undef np_bool np_int np_str np_nilp np_ptr np_glob np_nils np_slice np_nilm np_map np_func np_nilf np_niface np_iface np_agg np_tuple np_obj
  sl_up up_none n_up eval_tmp eval_const eval_func eval_global ofV_bool ofV_int ofV_string ofV_nilp ofV_nils ofV_nilm ofV_nilf ofV_niface
  opsP_nil opsP_cons stepP_free stepP_run stepP_skip stepP_undef slotAt_zero slotAt_succ runP_val runP_enter runP_err aop_move aop_assign aop_pick pickR_true pickR_false aop_bin aop_un val?_some vals?_some aop_extract
  aop_call aop_builtin args_eq callV_func aop_alloc aop_box aop_build aop_buildSlice aop_makeMap aop_makeSlice freshR_some aop_makeFunc aop_lookup aop_mapUpdate aop_assert aop_slice
  bin_add bin_sub bin_mul bin_eql bin_neq bin_lss bin_leq bin_gtr bin_geq bin_quo bin_rem bin_eql_bool bin_neq_bool un_not thenP_normal thenP_exit thenP_ret blockP_normal blockP_ret blockP_exit nth_lit
end Go.Am

namespace Go.Am
open Go Go.RowKit

/-- T has what S has, and more behind it. -/
structure Sub (S T : AS) : Prop where
  h : ∀ id, id < S.next → T.h.get id = S.h.get id
  next : S.next ≤ T.next
theorem Sub.refl (S : AS) : Sub S S := ⟨fun _ _ => rfl, Nat.le_refl _⟩
theorem Sub.trans {A B C : AS} (h : Sub A B) (k : Sub B C) : Sub A C := ⟨fun id hi => (k.h id (Nat.lt_of_lt_of_le hi h.next)).trans (h.h id hi), Nat.le_trans h.next k.next⟩
/-- S with a block more. -/
theorem Sub.set {A S : AS} (h : Sub A S) (id : Nat) (o : AObj) (hi : A.next ≤ id) (n : Nat) (hn : S.next ≤ n) : Sub A ⟨S.h.set id o, n⟩ :=
  ⟨fun i hlt => by show (S.h.set id o).get i = _; rw [get_set_ne _ _ (by omega)]; exact h.h i hlt, Nat.le_trans h.next hn⟩

/-- What nobody speaks of any more is let go. -/
theorem R.drop {Λ : LB} {ρ : Rho} {S T : AS} {w : World} (h : R Λ ρ T w) (hs : Sub S T) (hd : ∀ id o, S.h.get id = some o → id < S.next)
    (ho : ∀ id o, S.h.get id = some o → ORel (fun i g => if i < S.next then ρ i g else none) w id o) : R Λ (fun i g => if i < S.next then ρ i g else none) S w := by
  have hT : ∀ id o, S.h.get id = some o → T.h.get id = some o := fun id o hi => by rw [hs.h id (hd id o hi)]; exact hi
  refine ⟨ho, hd, fun id g hi => by simp only [if_neg (Nat.not_lt.2 hi)], fun id c l t f ty hi g hg => ?_, fun id o g pl hi hp => ?_, fun i j o oj g gj pl plj hij hi hj hp hpj => ?_, h.start, fun b hb => ?_⟩
  · simp only [if_pos (hd id _ hi)]; exact h.topg id c l t f ty (hT id _ hi) g hg
  · simp only [if_pos (hd id _ hi)] at hp; exact h.lt id o g pl (hT id _ hi) hp
  · simp only [if_pos (hd i _ hi)] at hp
    simp only [if_pos (hd j _ hj)] at hpj
    exact h.apart i j o oj g gj pl plj hij (hT i _ hi) (hT j _ hj) hp hpj
  · obtain ⟨d1, d2, d3⟩ := h.base b hb
    refine ⟨d1, d2, ?_⟩
    rintro ⟨i, o, g, pl, hi, hz, hp, rfl⟩
    simp only [if_pos (hd i _ hi)] at hp
    exact d3 ⟨i, o, g, pl, hT i _ hi, hz, hp, rfl⟩

/-- A call that gives a value without addresses, and leaves what was as it was. -/
theorem prim_flat {Λ : LB} {P : Program} {A : Ask} (hr : Ready P A) (hp : ∀ x, x ∈ A.prims → PrimOk Λ P x.1 x.2) (hg : ∀ x, x ∈ A.globs → GlobOk Λ.w Λ.B x.1 x.2) {f : FuncId} {q : List AV → AS → Option (AV × AS)} (n : Nat)
    (h : ∀ as S v S', q as S = some (v, S') → S' = S ∧ flatF n v = true ∧ CallW (mkCx P A) f as S fun v' T => v' = v ∧ Sub S T) : PrimOk Λ P f q := by
  intro ρ as S w args v S' hR hl hq
  obtain ⟨rfl, hf, hc⟩ := h as S v S' hq
  obtain ⟨k1, k2⟩ := calls_of hr hp hg hR hl hc
  refine ⟨k1, k2.mono ?_⟩
  rintro e w' ⟨x, v', T, ρ', rfl, h1, ⟨rfl, h2⟩, h3, h4⟩
  have hx : Ext ρ (fun i g => if i < S'.next then ρ' i g else none) := by
    intro i g pl hpl
    have hi : i < S'.next := by
      rcases Nat.lt_or_ge i S'.next with hh | hh
      · exact hh
      · rw [hR.fresh i g hh] at hpl; cases hpl
    simp only [if_pos hi]
    exact h4.ext i g pl hpl
  have hO : ∀ id o, S'.h.get id = some o → ORel (fun i g => if i < S'.next then ρ' i g else none) w' id o := by
    intro id o ho
    have hT : T.h.get id = some o := by rw [h2.h id (hR.dom id o ho)]; exact ho
    exact ORel.restrict hx h4.ext (fun g => by simp only [if_pos (hR.dom id o ho)]) (hR.objs id o ho) (h3.objs id o hT)
  refine ⟨x, _, rfl, flat_rel n v' x ρ' _ hf h1, h3.drop h2 hR.dom hO, ⟨hx, h4.os, h4.tape, h4.output, h4.size, h4.keep, fun b hb => ?_, fun b hb => ?_, Nat.le_refl _, fun id g hi hn => ⟨by simp only [if_pos hi]; exact (h4.resv id g hi hn).1, hn⟩⟩⟩
  · obtain ⟨i, o, g, pl, hi, hp', rfl⟩ := hb
    simp only [if_pos (hR.dom i o hi)] at hp'
    exact h4.mine _ ⟨i, o, g, pl, by rw [h2.h i (hR.dom i o hi)]; exact hi, hp', rfl⟩
  · obtain ⟨i, o, g, pl, hi, hz, hp', rfl⟩ := hb
    simp only [if_pos (hR.dom i o hi)] at hp'
    exact h4.wrt _ ⟨i, o, g, pl, by rw [h2.h i (hR.dom i o hi)]; exact hi, hz, hp', rfl⟩

/-- From nothing: what was there stays. -/
theorem below_of {w w' : World} {ρ' : Rho} {S' : AS} (h : Kp (fun _ _ => none) ⟨.leaf, 0⟩ w ρ' S' w') : Below w.heap.size w w' :=
  ⟨h.os, h.tape, h.output, h.size, fun k hk => h.keep k hk (by rintro ⟨i, o, g, pl, ho, _⟩; cases ho)⟩
/-- A law over arguments without addresses. -/
theorem law_flat {P : Program} {A : Ask} (hr : Ready P A) (hp : ∀ Λ : LB, ∀ x, x ∈ A.prims → PrimOk Λ P x.1 x.2) (hg : A.globs = []) {f : FuncId} {vals : List AV} {args : Array Value} (hl : ∀ ρ, LRel ρ vals args.toList)
    (hc : CallW (mkCx P A) f vals ⟨.leaf, 0⟩ fun v _ => v = .bool true) (w : World) : Calls P f args w fun e w' => e = .returned (.bool true) ∧ Below w.heap.size w w' := by
  have hR := empty_R (Λ := ⟨w, fun _ => False⟩) w (Nat.le_refl _) (fun _ hb => hb.elim)
  refine (calls_of hr (hp ⟨w, fun _ => False⟩) (by rw [hg]; intro x hx; cases hx) hR (hl _) hc).2.mono ?_
  rintro e w' ⟨x, v, S', ρ', rfl, h1, rfl, _, h4⟩
  simp only [VRel] at h1
  exact ⟨by rw [h1], below_of h4⟩
end Go.Am
