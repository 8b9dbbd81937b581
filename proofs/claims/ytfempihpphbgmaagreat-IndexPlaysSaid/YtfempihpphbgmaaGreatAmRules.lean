/-
  The abstract machine: its operations one by one, as rules for simp.
-/
import Derived.Test.YtfempihpphbgmaaGreatAmLogic
import Derived.IntWalk
namespace Go.Am
open Go
section
variable {cx : Cx} {ops : List Oper} {o : Oper} {l : List Oper} {F : Fr} {S : AS} {Q : Fr → AS → Prop} {K : AV → AS → Prop}
theorem opsP_nil : qN cx ops [] F S Q = Q F S := rfl
def kont (cx : Cx) (ops l : List Oper) (F : Fr) (d : Option Nat) (Q : Fr → AS → Prop) (v : AV) (S' : AS) : Prop := qN cx ops l (up F d v) S' Q
theorem kont_app {d : Option Nat} {v : AV} {S' : AS} : kont cx ops l F d Q v S' = qN cx ops l (up F d v) S' Q := rfl
theorem opsP_cons : qN cx ops (o :: l) F S Q = dZ cx ops o F S (kont cx ops l F o.dst Q) := rfl
theorem D9 {dst : Option Tmp} {op : Op} {ty : TypeId} {pos : String} {af : Array Edge} : dZ cx ops ⟨dst, op, ty, pos, af, none⟩ F S K = qG cx (bq cx F S ⟨dst, op, ty, pos, af, none⟩) K := by
 simp [dZ, bg]
theorem nh {dst : Option Tmp} {op : Op} {ty : TypeId} {pos : String} {af : Array Edge} {j : Nat} {w : Bool} : dZ cx ops ⟨dst, op, ty, pos, af, some (j, w)⟩ F S K =
  (match bg ops F (some (j, w)) with
   | some b => (b = true → qG cx (bq cx F S ⟨dst, op, ty, pos, af, some (j, w)⟩) K) ∧ (b = false → K .undef S)
   | none => False) := rfl
def dI : List Oper → Nat → Option Nat
 | [], _ => none
 | o :: _, 0 => o.dst
 | _ :: l, n + 1 => dI l n
theorem BF {o : Oper} {l : List Oper} : dI (o :: l) 0 = o.dst := rfl
theorem BG {o : Oper} {l : List Oper} {n : Nat} : dI (o :: l) (n + 1) = dI l n := rfl
theorem iK : ∀ (l : List Oper) (j d : Nat), dI l j = some d → ∃ p, l[j]? = some p ∧ p.dst = some d
 | [], _, _, h => by cases h
 | o :: l, 0, d, h => ⟨o, rfl, h⟩
 | o :: l, n + 1, d, h => by simpa using iK l n d h
theorem dV {j d : Nat} {w b : Bool} (h1 : dI ops j = some d) (h2 : sl F d = .bool b) : bg ops F (some (j, w)) = some (cond w b (!b)) := by
 obtain ⟨p, e1, e2⟩ := iK ops j d h1;simp [bg, e1, e2, h2]
theorem stepP_run {dst : Option Tmp} {op : Op} {ty : TypeId} {pos : String} {af : Array Edge} {j d : Nat} {w b : Bool} (h1 : dI ops j = some d) (h2 : sl F d = .bool b) (h3 : (b == w) = true) :
  dZ cx ops ⟨dst, op, ty, pos, af, some (j, w)⟩ F S K = qG cx (bq cx F S ⟨dst, op, ty, pos, af, some (j, w)⟩) K := by
 have hw := dV (w := w) h1 h2;obtain rfl : b = w := by simpa using h3
 rw [nh, hw]
 cases b <;> simp
theorem D8 {dst : Option Tmp} {op : Op} {ty : TypeId} {pos : String} {af : Array Edge} {j d : Nat} {w b : Bool} (h1 : dI ops j = some d) (h2 : sl F d = .bool b) (h3 : (b == !w) = true) :
  dZ cx ops ⟨dst, op, ty, pos, af, some (j, w)⟩ F S K = K .undef S := by
 have hw := dV (w := w) h1 h2;obtain rfl : b = !w := by simpa using h3
 rw [nh, hw]
 cases w <;> simp
theorem BA {dst : Option Tmp} {op : Op} {ty : TypeId} {pos : String} {af : Array Edge} {j d : Nat} {w : Bool} (h1 : dI ops j = some d) (h2 : sl F d = .undef) :
  dZ cx ops ⟨dst, op, ty, pos, af, some (j, w)⟩ F S K = K .undef S := by
 obtain ⟨p, e1, e2⟩ := iK ops j d h1;have hw : bg ops F (some (j, w)) = some false := by simp [bg, e1, e2, h2, AV.undef]
 rw [nh, hw];simp
theorem runP_val {v : AV} {S' : AS} : qG cx (.val v S') K = K v S' := rfl
theorem Er {f : FuncId} {as : List AV} {S' : AS} : qG cx (.enter f as S') K = ai cx f as S' K := rfl
theorem runP_err {n : Nat} : qG cx (.err n) K = False := rfl
variable {dst : Option Tmp} {ty : TypeId} {pos : String} {af : Array Edge} {g : Option (Nat × Bool)}
theorem aop_move {x : Operand} : bq cx F S ⟨dst, .move x, ty, pos, af, g⟩ = .val (eval F x) S := rfl
theorem aop_assign {x : Operand} : bq cx F S ⟨dst, .assign x, ty, pos, af, g⟩ = .val (eval F x) S := rfl
def pickR (c a b : AV) (S : AS) : AR := match c with | .bool true => .val a S | .bool false => .val b S | _ => .err 20
theorem aop_pick {c a b : Operand} : bq cx F S ⟨dst, .pick c a b, ty, pos, af, g⟩ = pickR (eval F c) (eval F a) (eval F b) S := rfl
theorem EK {a b : AV} : pickR (.bool true) a b S = .val a S := rfl
theorem Ci {a b : AV} : pickR (.bool false) a b S = .val b S := rfl
theorem aop_bin {op : BinOp} {t u : TypeId} {x y : Operand} : bq cx F S ⟨dst, .binOp op t x y u, ty, pos, af, g⟩ = val? (cK cx op t ((x matches .const _) || (y matches .const _)) (eval F x) (eval F y)) S 40 := rfl
theorem aop_un {op : UnOp} {t : TypeId} {x : Operand} : bq cx F S ⟨dst, .unOp op t x, ty, pos, af, g⟩ = val? (unV op (eval F x)) S 41 := rfl
theorem val?_some {v : AV} {n : Nat} : val? (some v) S n = .val v S := rfl
theorem D0 {v : AV} {S' : AS} {n : Nat} : b8 (some (v, S')) n = .val v S' := rfl
theorem oe {x : Operand} {i : Nat} : bq cx F S ⟨dst, .extract x i, ty, pos, af, g⟩ = (match eval F x with | .tuple vs => val? (nth i vs) S 82 | _ => .err 83) := rfl
theorem aop_call {f : Operand} {as : Array Operand} {kM : Array TypeId} : bq cx F S ⟨dst, .call ⟨.value f, as, kM⟩, ty, pos, af, g⟩ = mU cx S (eval F f) (args F as) := rfl
theorem DD {b : Builtin} {as : Array Operand} {kM : Array TypeId} : bq cx F S ⟨dst, .call ⟨.builtin b, as, kM⟩, ty, pos, af, g⟩ = aJ cx S b kM.toList (args F as) := rfl
theorem args_eq {as : Array Operand} : args F as = as.toList.map (eval F) := by unfold args; rw [fe]
theorem callV_func {f : FuncId} {first captured as : List AV} (h : cx.exts.get f = none) : mU cx S (.func (.func f) first captured) as = .enter f (first ++ (as ++ captured)) S := by
 simp only [mU, h, bd]
theorem aop_alloc {e : TypeId} : bq cx F S ⟨dst, .alloc e, ty, pos, af, g⟩ = fS (aI cx F S.next (.alloc e)) S 21 := rfl
theorem aop_box {t : TypeId} {x : Operand} : bq cx F S ⟨dst, .box t x, ty, pos, af, g⟩ = fS (aI cx F S.next (.box t x)) S 23 := rfl
theorem aop_build {t : TypeId} {ps : Array (Nat × Operand)} : bq cx F S ⟨dst, .build t ps, ty, pos, af, g⟩ = val? (mF cx F t ps.toList) S 24 := rfl
theorem wL {t : TypeId} {n : Nat} {ps : Array (Nat × Operand)} : bq cx F S ⟨dst, .buildSlice t n ps, ty, pos, af, g⟩ = fS (aI cx F S.next (.buildSlice t n ps)) S 25 := rfl
theorem DB {t : TypeId} {r : Option Operand} : bq cx F S ⟨dst, .makeMap t r, ty, pos, af, g⟩ = fS (aI cx F S.next (.makeMap t r)) S 48 := rfl
theorem xR {t : TypeId} {a b : Operand} : bq cx F S ⟨dst, .makeSlice t a b, ty, pos, af, g⟩ = fS (aI cx F S.next (.makeSlice t a b)) S 49 := rfl
theorem CR {v : AV} {o : bW} {n : Nat} : fS (some (v, o)) S n = .val v ⟨S.h.set S.next o, S.next + 1⟩ := rfl
theorem A9 {fn : Fn} {a b : Array Operand} : bq cx F S ⟨dst, .makeFunc fn a b, ty, pos, af, g⟩ = .val (.func fn (args F a) (args F b)) S := rfl
theorem aop_lookup {t : TypeId} {x i : Operand} {ok : Bool} : bq cx F S ⟨dst, .lookup t x i ok, ty, pos, af, g⟩ = val? (kr cx S t (eval F x) (eval F i) ok) S 71 := rfl
theorem xQ {t : TypeId} {m k v : Operand} : bq cx F S ⟨dst, .mapUpdate t m k v, ty, pos, af, g⟩ = b8 (jC cx S t (eval F m) (eval F k) (eval F v)) 78 := rfl
theorem aop_assert {x : Operand} {t u : TypeId} {ok : Bool} : bq cx F S ⟨dst, .typeAssert x t u ok, ty, pos, af, g⟩ = val? (iZ cx (eval F x) u ok) S 85 := rfl
theorem aop_slice {t : TypeId} {x : Operand} {a b c : Option Operand} : bq cx F S ⟨dst, .slice t x a b c, ty, pos, af, g⟩ = val? (cE cx F t (eval F x) a b c) S 53 := rfl
theorem aop_load {t : TypeId} {x : Operand} {id gn off lim : Nat} {v : AV} (hx : eval F x = .ptr id gn off lim) (h : mO cx S t (.ptr id gn off lim) = some v) : bq cx F S ⟨dst, .load t x, ty, pos, af, g⟩ = .val v S := by
 unfold mO at h;simp only [bq, hx];simp only at h
 cases ha : aE cx t with
 | none => simp [ha] at h
 | some b =>
  cases b with
  | true =>
   simp only [ha] at h ⊢
   cases hs : aw cx t with
   | none => simp [hs] at h
   | some n =>
    simp only [hs] at h ⊢
    cases hr : rd S id gn off n lim with
    | none => simp [hr] at h
    | some cs => simp only [hr, Option.some.injEq] at h ⊢; rw [h]
  | false =>
   simp only [ha] at h ⊢
   split at h
   ·rename_i u hr
    simp only [Option.some.injEq] at h;subst h;rw [hr]
   ·cases h
theorem aop_store {t : TypeId} {x y : Operand} {id gn off lim n : Nat} {cs : List AV} {S' : AS} (hx : eval F x = .ptr id gn off lim) (hy : cellsOf (eval F y) = some cs) (hs : aw cx t = some n) (hl : cs.length = n)
  (hw : wr S id gn off lim cs = some S') : bq cx F S ⟨dst, .store t x y, ty, pos, af, g⟩ = .val .undef S' := by
 simp only [bq, hx, hy, hs, hw, aK, aU, hl, decide_true, cond_true]
theorem tc {x : Operand} {i gn o l : Nat} (hx : eval F x = .ptr i gn o l) : bq cx F S ⟨dst, .nilCheck x, ty, pos, af, g⟩ = .val (.ptr i gn o l) S := by simp only [bq, hx]
theorem rA {x : Operand} {f : FuncId} {a b : List AV} (hx : eval F x = .func (.func f) a b) : bq cx F S ⟨dst, .nilCheck x, ty, pos, af, g⟩ = .val (.func (.func f) a b) S := by simp only [bq, hx]
theorem Dz {t : TypeId} {x : Operand} {d : TypeDesc} (h : aZ cx t = some d) (hn : (match d with | .interface _ => false | _ => true) = true) : bq cx F S ⟨dst, .makeInterface t x, ty, pos, af, g⟩ = .val (.iface t (eval F x)) S := by
 simp only [bq, h]
 cases d <;> first | rfl | cases hn
theorem xU {s : TypeId} {x : Operand} {f id gn off lim z : Nat} {fs : Array Field} {fd : Field} (hx : eval F x = .ptr id gn off lim) (hu : aZ cx s = some (.struct fs)) (hf : fs[f]? = some fd) (hz : aw cx fd.type = some (z + 1)) :
  bq cx F S ⟨dst, .fieldAddr s x f, ty, pos, af, g⟩ = .val (.ptr id gn (off + fd.offset) lim) S := by
 have xz : nth f fs.toList = some fd := by rw [fP, Array.getElem?_toList]; exact hf
 simp only [bq, hu, hx, xz, hz, aC]; rfl
theorem aop_field {t : TypeId} {x : Operand} {f : Nat} {cs : List AV} {fs : Array Field} {fd : Field} (hx : eval F x = .agg cs) (hu : aZ cx t = some (.struct fs)) (hf : fs[f]? = some fd) :
  bq cx F S ⟨dst, .field t x f, ty, pos, af, g⟩ = val? (partOf cx fd.type cs fd.offset) S 57 := by
 have xz : nth f fs.toList = some fd := by rw [fP, Array.getElem?_toList]; exact hf
 simp only [bq, hu, hx, xz]
theorem pF {t e : TypeId} {x ix : Operand} {id gn off len lim z i : Nat} {cap : Option Nat} {k : IntKind} {n : Int} (hx : eval F x = .slice id gn off len lim z cap) (hu : aZ cx t = some (.slice e)) (hz : aw cx e = some z)
  (hi : eval F ix = .int k n) (hn : n = (i : Int)) (hl : i < len) : bq cx F S ⟨dst, .indexAddr t x ix, ty, pos, af, g⟩ = .val (.ptr id gn (off + i * z) lim) S := by
 subst hn;simp only [bq, hu, hx, hi, fc, hz, aK, fI, hl, decide_true, Bool.and_self, cond_true, aC]; rfl
theorem xS {t : TypeId} {x ix : Operand} {s : List Nat} {i c : Nat} {k : IntKind} {n : Int} (hx : eval F x = .str s) (hu : aZ cx t = some .string) (hi : eval F ix = .int k n) (hn : n = (i : Int)) (hc : s[i]? = some c) :
  bq cx F S ⟨dst, .index t x ix, ty, pos, af, g⟩ = .val (.int .u8 c) S := by
 subst hn;have iP : nth i s = some c := by rw [fP]; exact hc
 simp only [bq, hu, hx, hi, fc, iP]; rfl
theorem Bd {s d : TypeId} {x : Operand} {k j : IntKind} {n : Int} {e : TypeDesc} (hs : aZ cx s = some e) (hd : aZ cx d = some (.int k)) (hx : eval F x = .int j n) : bq cx F S ⟨dst, .convert s d x, ty, pos, af, g⟩ = .val (.int k (k.wrap n)) S := by
 simp only [bq, hs, hd, hx, gp]
theorem eW {t : TypeId} {ts : List TypeId} {e : TypeId} {as : List AV} {id gn off len lim z : Nat} {cap : Option Nat} (hu : aZ cx t = some (.slice e)) : aJ cx S .len (t :: ts) (.slice id gn off len lim z cap :: as) = .val (.int .i64 len) S := by
 simp only [aJ, lenV, hu, aC]; rfl
theorem len_nils {t : TypeId} {ts : List TypeId} {e : TypeId} {as : List AV} (hu : aZ cx t = some (.slice e)) : aJ cx S .len (t :: ts) (.aH :: as) = .val (.int .i64 0) S := by
 simp only [aJ, lenV, hu, aC]; rfl
theorem aD {t : TypeId} {ts : List TypeId} {as : List AV} {s : List Nat} (hu : aZ cx t = some .string) : aJ cx S .len (t :: ts) (.str s :: as) = .val (.int .i64 s.length) S := by
 simp only [aJ, lenV, hu, aC]; rfl
end
section
variable {cx : Cx} {t : TypeId} {c : Bool} {k : IntKind} {a b : Int}
theorem bin_add : cK cx .add t c (.int k a) (.int k b) = some (.int k (k.wrap (a + b))) := by simp [cK, cC, pf, gp]
theorem bin_sub : cK cx .sub t c (.int k a) (.int k b) = some (.int k (k.wrap (a - b))) := by simp [cK, cC, pf, gp]; rfl
theorem bin_mul : cK cx .mul t c (.int k a) (.int k b) = some (.int k (k.wrap (a * b))) := by simp [cK, cC, pf, gp]
theorem bin_quo (h : b ≠ 0) : cK cx .quo t c (.int k a) (.int k b) = some (.int k (k.wrap (a.tdiv b))) := by
 have : C2 b 0 = false := by rw [gC]; simpa using h
 simp [cK, cC, pf, gp, this]
theorem bin_rem (h : b ≠ 0) : cK cx .rem t c (.int k a) (.int k b) = some (.int k (a.tmod b)) := by
 have : C2 b 0 = false := by rw [gC]; simpa using h
 simp [cK, cC, pf, eX, this]
theorem bin_eql : cK cx .eql t c (.int k a) (.int k b) = some (.bool (decide (a = b))) := by simp [cK, cC, pf, gC]
theorem bin_neq : cK cx .neq t c (.int k a) (.int k b) = some (.bool (!decide (a = b))) := by simp [cK, cC, pf, gC]
theorem bin_lss : cK cx .lss t c (.int k a) (.int k b) = some (.bool (decide (a < b))) := by simp [cK, cC, pf, j5]
theorem bin_leq : cK cx .leq t c (.int k a) (.int k b) = some (.bool (decide (a ≤ b))) := by
 simp only [cK, cC, pf, j5, decide_true, cond_true, Option.some.injEq, AV.bool.injEq]
 by_cases h : a ≤ b <;> simp [h] <;> omega
theorem bin_gtr : cK cx .gtr t c (.int k a) (.int k b) = some (.bool (decide (b < a))) := by simp [cK, cC, pf, j5]
theorem bin_geq : cK cx .geq t c (.int k a) (.int k b) = some (.bool (decide (b ≤ a))) := by
 simp only [cK, cC, pf, j5, decide_true, cond_true, Option.some.injEq, AV.bool.injEq]
 by_cases h : b ≤ a <;> simp [h] <;> omega
theorem A2 {x y : Bool} (h : aZ cx t = some .bool) : cK cx .eql t c (.bool x) (.bool y) = some (.bool (x == y)) := by
 have e : sO cx 6 t (.bool x) (.bool y) = some (x == y) := by
  show (match aZ cx t with | none => none | some d => gz cx (sO cx 5) t d (.bool x) (.bool y)) = _
  rw [h]; rfl
 simp [cK, DW, pN, e]
theorem AZ {x y : Bool} (h : aZ cx t = some .bool) : cK cx .neq t c (.bool x) (.bool y) = some (.bool (!(x == y))) := by
 have e : sO cx 6 t (.bool x) (.bool y) = some (x == y) := by
  show (match aZ cx t with | none => none | some d => gz cx (sO cx 5) t d (.bool x) (.bool y)) = _
  rw [h]; rfl
 simp [cK, DW, pN, e]
theorem un_not {x : Bool} : unV .not (.bool x) = some (.bool (!x)) := rfl
end
theorem runP_mono {cx : Cx} {r : AR} {K K' : AV → AS → Prop} (h : qG cx r K) (k : ∀ v S', K v S' → K' v S') : qG cx r K' := by
 unfold qG at h ⊢
 cases r with
 | val v S' => exact k _ _ h
 | enter f as S' => exact h.mono k
 | err n => exact h
 | round f as S' => exact h
 | ei v S' => exact h
 | many l => exact h
theorem lZ {cx : Cx} {ops : List Oper} {o : Oper} {F : Fr} {S : AS} {K K' : AV → AS → Prop} (h : dZ cx ops o F S K) (k : ∀ v S', K v S' → K' v S') : dZ cx ops o F S K' := by
 unfold dZ at h ⊢
 cases hw : bg ops F o.guard with
 | none => rw [hw] at h; exact h
 | some b => rw [hw] at h; exact ⟨fun hb => runP_mono (h.1 hb) k, fun hb => k _ _ (h.2 hb)⟩
theorem yD {cx : Cx} {ops : List Oper} {Q Q' : Fr → AS → Prop} : ∀ {l : List Oper} {F : Fr} {S : AS}, qN cx ops l F S Q → (∀ F' S', Q F' S' → Q' F' S') → qN cx ops l F S Q'
 | [], _, _, h, k => k _ _ h
 | _ :: _, _, _, h, k => lZ h fun _ _ h' => yD h' k
section
variable {cx : Cx} {F : Fr} {S : AS} {Q : Ex → Fr → AS → Prop}
end
def bR : List Nat → Fr → Fr → Prop
 | [], _, _ => True
 | t :: l, F, G => sl F t = sl G t ∧ bR l F G
theorem wN (F : Fr) : ∀ l, bR l F F
 | [] => trivial
 | _ :: l => ⟨rfl, wN F l⟩
theorem zw (F G : Fr) : bR [] F G = True := rfl
theorem wO (t : Nat) (l : List Nat) (F G : Fr) : bR (t :: l) F G = (sl F t = sl G t ∧ bR l F G) := rfl
theorem wpP_congr {cx : Cx} {c : Code} {F F' : Fr} {S S' : AS} {Q : Ex → Fr → AS → Prop} (h1 : F = F') (h2 : S = S') : jJ cx c F S Q = jJ cx c F' S' Q := by rw [h1, h2]
theorem AH {cx : Cx} {ops : List Oper} {F F' : Fr} {S S' : AS} {Q : Fr → AS → Prop} (h1 : F = F') (h2 : S = S') : iR cx ops F S Q = iR cx ops F' S' Q := by rw [h1, h2]
theorem DI {cx : Cx} {b : Code} {F F' : Fr} {S S' : AS} {Q : Ex → Fr → AS → Prop} (h1 : F = F') (h2 : S = S') : tT cx b F S Q = tT cx b F' S' Q := by rw [h1, h2]
theorem Dg {x x' : AV} {A B : Prop} (h : x = x') : iC x A B = iC x' A B := by rw [h]
section
variable {cx : Cx} {F : Fr} {S : AS} {Q : Ex → Fr → AS → Prop}
theorem wpP_skip : jJ cx .skip F S Q = Q .normal F S := rfl
theorem wpP_ret : jJ cx .ret F S Q = Q .ret F S := rfl
theorem wpP_exit {id : Nat} : jJ cx (.exit id) F S Q = Q (.exit id) F S := rfl
theorem DX {id : Nat} {l : List Oper} : jJ cx (.region id l.toArray false) F S Q = qN cx l l F S (Q .normal) := rfl
theorem wpP_drawn {id : Nat} {l : List Oper} : jJ cx (.region id l.toArray true) F S Q = iR cx l F S (Q .normal) := rfl
def kcode (cx : Cx) (b : Code) (Q : Ex → Fr → AS → Prop) (F' : Fr) (S' : AS) : Prop := jJ cx b F' S' Q
theorem aP {b : Code} {F' : Fr} {S' : AS} : kcode cx b Q F' S' = jJ cx b F' S' Q := rfl
theorem lW {a b : Code} : jJ cx (.seq a b) F S Q = jJ cx a F S (ju (kcode cx b Q) Q) := rfl
theorem dO {x : Operand} {a b : Code} : jJ cx (.cond x a b) F S Q = iC (eval F x) (jJ cx a F S Q) (jJ cx b F S Q) := rfl
theorem wpP_scope {b : Code} : jJ cx (.scope b) F S Q = jJ cx b F S (nk Q) := rfl
theorem wpP_label {l : Nat} : jJ cx (.label l) F S Q = Q .normal F S := rfl
theorem bC {id : Nat} {b : Code} : jJ cx (.block id b) F S Q = jJ cx b F S (kh id Q) := rfl
theorem gY {b : Code} : jJ cx (.loop b) F S Q = tT cx b F S Q := rfl
theorem condP_true {A B : Prop} : iC (.bool true) A B = A := by simp [iC]
theorem Df {A B : Prop} : iC (.bool false) A B = B := by simp [iC]
theorem bodyP_ret {fn : Func} {K : AV → AS → Prop} : tK cx fn K .ret F S = uj (jD cx F S fn.results.toList |>.map fun vs => match vs with | [v] => v | vs => .tuple vs) S K := rfl
theorem AX {fn : Func} {K : AV → AS → Prop} : tK cx fn K .normal F S = uj (jD cx F S fn.results.toList |>.map fun vs => match vs with | [v] => v | vs => .tuple vs) S K := rfl
theorem endP_some {v : AV} {K : AV → AS → Prop} : uj (some v) S K = (bz v = false ∧ K v S) := rfl
theorem np_undef  : bz (.undef : AV) = false := rfl
theorem np_bool {b : Bool} : bz (.bool b) = false := rfl
theorem np_int {k : IntKind} {n : Int} : bz (.int k n) = false := rfl
theorem np_str {l : List Nat} : bz (.str l) = false := rfl
theorem np_nilp  : bz .dT = false := rfl
theorem np_ptr {a b c d : Nat} : bz (.ptr a b c d) = false := rfl
theorem np_glob {a b : Nat} : bz (.sF a b) = false := rfl
theorem np_nils  : bz .aH = false := rfl
theorem np_slice {a b c d e f : Nat} {g : Option Nat} : bz (.slice a b c d e f g) = false := rfl
theorem np_nilm  : bz .gm = false := rfl
theorem np_map {a : Nat} : bz (.map a) = false := rfl
theorem np_func {f : Fn} {a b : List AV} : bz (.func f a b) = false := rfl
theorem np_nilf  : bz .jE = false := rfl
theorem np_niface  : bz .bN = false := rfl
theorem np_iface {t : TypeId} {v : AV} : bz (.iface t v) = false := rfl
theorem np_agg {l : List AV} : bz (.agg l) = false := rfl
theorem np_tuple {l : List AV} : bz (.tuple l) = false := rfl
theorem np_obj {o : OK} {i : Nat} : bz (.obj o i) = false := rfl
theorem lh : jD cx F S [] = some [] := rfl
theorem lg {t : Nat} {l : List ResultVar} : jD cx F S (.tmp t :: l) = (jD cx F S l).map (sl F t :: ·) := by
 show mf cx F S (.tmp t) (jD cx F S l) = _
 cases jD cx F S l with
 | none => rfl
 | some vs => simp only [mf, ay, Option.map_some]
theorem resL_cell {t : Nat} {ty : TypeId} {l : List ResultVar} : jD cx F S (.cell t ty :: l) = (jD cx F S l).bind fun vs => (mO cx S ty (sl F t)).map (· :: vs) := by
 show mf cx F S (.cell t ty) (jD cx F S l) = _
 cases jD cx F S l with
 | none => rfl
 | some vs =>
  simp only [mf, ay, Option.bind_some]
  cases mO cx S ty (sl F t) <;> rfl
end
theorem DL {cx : Cx} {f : FuncId} {as as' : List AV} {S S' : AS} {Q : AV → AS → Prop} (h1 : as = as') (h2 : S = S') : ai cx f as S Q = ai cx f as' S' Q := by rw [h1, h2]
theorem zG {R : Fr → AS → Prop} {Q : Ex → Fr → AS → Prop} {F : Fr} {S : AS} : ju R Q .normal F S = R F S := rfl
theorem D4 {R : Fr → AS → Prop} {Q : Ex → Fr → AS → Prop} {F : Fr} {S : AS} {i : Nat} : ju R Q (.exit i) F S = Q (.exit i) F S := rfl
theorem thenP_ret {R : Fr → AS → Prop} {Q : Ex → Fr → AS → Prop} {F : Fr} {S : AS} : ju R Q .ret F S = Q .ret F S := rfl
theorem xf {Q : Ex → Fr → AS → Prop} {F : Fr} {S : AS} : nk Q .normal F S = Q .normal F S := rfl
theorem Em {Q : Ex → Fr → AS → Prop} {F : Fr} {S : AS} : nk Q .ret F S = Q .ret F S := rfl
theorem BN {Q : Ex → Fr → AS → Prop} {F : Fr} {S : AS} {i : Nat} : nk Q (.exit i) F S = Q (.exit i) F S := rfl
theorem xM {id : Nat} {Q : Ex → Fr → AS → Prop} {F : Fr} {S : AS} : kh id Q .normal F S = Q .normal F S := rfl
theorem blockP_ret {id : Nat} {Q : Ex → Fr → AS → Prop} {F : Fr} {S : AS} : kh id Q .ret F S = Q .ret F S := rfl
theorem Dq {id j : Nat} {Q : Ex → Fr → AS → Prop} {F : Fr} {S : AS} : kh id Q (.exit j) F S = if j = id then Q .normal F S else Q (.exit j) F S := rfl
theorem nth_lit {α : Type} (n : Nat) (l : List α) : nth n l = l[n]? := fP n l
theorem EM {cx : Cx} {ops l : List Oper} {F F' : Fr} {S S' : AS} {Q : Fr → AS → Prop} (h1 : F = F') (h2 : S = S') : qN cx ops l F S Q = qN cx ops l F' S' Q := by rw [h1, h2]
theorem BB {cx : Cx} {ops : List Oper} {o : Oper} {F F' : Fr} {S S' : AS} {K : AV → AS → Prop} (h1 : F = F') (h2 : S = S') : dZ cx ops o F S K = dZ cx ops o F' S' K := by rw [h1, h2]
theorem Es {cx : Cx} {r r' : AR} {K : AV → AS → Prop} (h1 : r = r') : qG cx r K = qG cx r' K := by rw [h1]
theorem Bu {ops : List Oper} {F F' : Fr} {g : Option (Nat × Bool)} (h : F = F') : bg ops F g = bg ops F' g := by rw [h]
theorem zJ {ops : List Oper} {n m : Nat} (h : n = m) : dI ops n = dI ops m := by rw [h]
attribute [congr] Bu zJ wpP_congr AH DI Dg DL EM BB Es
attribute [simp] kont_app aP zw wO wpP_skip wpP_ret wpP_exit DX wpP_drawn lW dO bC wpP_scope wpP_label xf Em BN gY condP_true Df bodyP_ret AX endP_some lh lg resL_cell iU np_undef np_bool np_int np_str np_nilp np_ptr np_glob np_nils np_slice np_nilm np_map np_func np_nilf np_niface np_iface np_agg np_tuple np_obj
 sl_up up_none mZ ay eval_const eval_func eval_global ofV_bool ofV_int EU ofV_nilp ofV_nils ofV_nilm ofV_nilf EV
 opsP_nil opsP_cons D9 stepP_run D8 BA BF BG runP_val Er runP_err aop_move aop_assign aop_pick EK Ci aop_bin aop_un val?_some D0 oe
 aop_call DD args_eq callV_func aop_alloc aop_box aop_build wL DB xR CR A9 aop_lookup xQ aop_assert aop_slice
 bin_add bin_sub bin_mul bin_eql bin_neq bin_lss bin_leq bin_gtr bin_geq bin_quo bin_rem A2 AZ un_not zG D4 thenP_ret xM blockP_ret Dq nth_lit
end Go.Am
