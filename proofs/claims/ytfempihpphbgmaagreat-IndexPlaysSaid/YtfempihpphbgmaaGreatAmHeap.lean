/-
  The abstract machine: memory, as rules for simp.
-/
import Derived.Test.YtfempihpphbgmaaGreatAmStill
noncomputable section
namespace Go.Am
open Go
set_option linter.unusedSimpArgs false
section
variable {cx : Cx} {ops : List Oper} {F : Fr} {S : AS}
variable {dst : Option Tmp} {ty : TypeId} {pos : String} {af : Array Edge} {g : Option (Nat × Bool)}
theorem lenL_lit {α : Type} (l : List α) : cZ l = l.length := aU l
theorem nY {cs : List AV} : cellsOf (.agg cs) = some cs := rfl
theorem Dl {k : IntKind} {n : Int} : cellsOf (.int k n) = some [.int k n] := rfl
theorem AT {b : Bool} : cellsOf (.bool b) = some [.bool b] := rfl
theorem Di {s : List Nat} : cellsOf (.str s) = some [.str s] := rfl
theorem xK {t : TypeId} {v : AV} : cellsOf (.iface t v) = some [.iface t v] := rfl
theorem wB : cellsOf .bN = some [.bN] := rfl
theorem AM : cellsOf .aH = some [.aH] := rfl
theorem AN : cellsOf .dT = some [.dT] := rfl
theorem Dj {a b c d : Nat} : cellsOf (.ptr a b c d) = some [.ptr a b c d] := rfl
theorem xJ {a b c d e f : Nat} {h : Option Nat} : cellsOf (.slice a b c d e f h) = some [.slice a b c d e f h] := rfl
def boxV (id : Nat) (t : TypeId) (cs : Option (List AV)) : Option (AV × bW) := match cs with | some cs => some (.ptr id 0 0 cs.length, .row cs 0 0 false t) | none => none
theorem boxV_some {id : Nat} {t : TypeId} {cs : List AV} : boxV id t (some cs) = some (.ptr id 0 0 cs.length, .row cs 0 0 false t) := rfl
theorem freshV_box {id : Nat} {t : TypeId} {x : Operand} : aI cx F id (.box t x) = boxV id t (cellsOf (eval F x)) := by
 unfold aI boxV;simp only [aU]
 cases cellsOf (eval F x) <;> rfl
def allocV (id : Nat) (e : TypeId) (z : Option AV) : Option (AV × bW) := match z with | some z => boxV id e (cellsOf z) | none => none
theorem DE {id : Nat} {e : TypeId} {z : AV} : allocV id e (some z) = boxV id e (cellsOf z) := rfl
theorem Ay {id : Nat} {e : TypeId} : aI cx F id (.alloc e) = allocV id e (zeroOf cx e) := by
 unfold aI allocV boxV;simp only [aU]
 cases zeroOf cx e with
 | none => rfl
 | some z => simp only []; cases cellsOf z <;> rfl
def rdO (o : Option bW) (gn off n lim : Nat) : Option (List AV) := match o with
 | some (.row cells low top _ _) => if low ≤ gn ∧ gn ≤ top ∧ off + n ≤ lim then some ((cells.drop off).take n) else none
 | _ => none
theorem dQ {cells : List AV} {low top gn off n lim : Nat} {frz : Bool} {e : TypeId} : rdO (some (.row cells low top frz e)) gn off n lim = if low ≤ gn ∧ gn ≤ top ∧ off + n ≤ lim then some ((cells.drop off).take n) else none := rfl
theorem fV {id gn off n lim : Nat} : rd S id gn off n lim = rdO (S.h.get id) gn off n lim := by
 unfold rd rdO
 cases S.h.get id with
 | none => rfl
 | some o =>
  cases o with
  | map es c => rfl
  | dS x => rfl
  | row cells low top frz e =>
   simp only [cg, show Nat.add off n = off + n from rfl, bX, ck]
   by_cases h1 : low ≤ gn <;> by_cases h2 : gn ≤ top <;> by_cases h3 : off + n ≤ lim <;> simp [h1, h2, h3]
def wrO (S : AS) (id : Nat) (o : Option bW) (gn off lim : Nat) (new : List AV) : Option AS := match o with
 | some (.row cells _ top frz e) => if gn = top ∧ off + new.length ≤ lim ∧ frz = false then some ⟨S.h.set id (.row (dg off cells new) top top false e), S.next⟩ else none
 | _ => none
theorem ox {id : Nat} {cells new : List AV} {low top gn off lim : Nat} {frz : Bool} {e : TypeId} : wrO S id (some (.row cells low top frz e)) gn off lim new = if gn = top ∧ off + new.length ≤ lim ∧ frz = false then some ⟨S.h.set id (.row (dg off cells new) top top false e), S.next⟩ else none := rfl
theorem yb {id gn off lim : Nat} {new : List AV} : wr S id gn off lim new = wrO S id (S.h.get id) gn off lim new := by
 unfold wr wrO
 cases S.h.get id with
 | none => rfl
 | some o =>
  cases o with
  | map es c => rfl
  | dS x => rfl
  | row cells low top frz e =>
   simp only [aK, cg, aU, show Nat.add off new.length = off + new.length from rfl]
   by_cases h1 : gn = top <;> by_cases h2 : off + new.length ≤ lim <;> cases frz <;> simp [h1, h2]
theorem l4 {off : Nat} {cells new : List AV} (h : off ≤ cells.length) : dg off cells new = cells.take off ++ new ++ cells.drop (off + new.length) := fE off cells new h
def loadT (cx : Cx) (S : AS) (t : TypeId) (v : AV) : Option AV := match v with | .ptr a b c d => mO cx S t (.ptr a b c d) | _ => none
theorem lC {t : TypeId} {a b c d : Nat} : loadT cx S t (.ptr a b c d) = mO cx S t (.ptr a b c d) := rfl
theorem DC {t : TypeId} {x : Tmp} {v u : AV} (hx : sl F x = v) (h : loadT cx S t v = some u) : bq cx F S ⟨dst, .load t (.tmp x), ty, pos, af, g⟩ = .val u S := by
 unfold loadT at h
 split at h
 ·exact aop_load ((ay F x).trans hx) h
 ·cases h
def fieldAt (cx : Cx) (s : TypeId) (f : Nat) : Option Nat := match aZ cx s with
 | some (.struct fs) => match fs[f]? with
  | some fd => match aw cx fd.type with
   | some (_ + 1) => some fd.offset
   | _ => none
  | none => none
 | _ => none
def Az (v : AV) (o : Option Nat) : Option AV := match v, o with | .ptr id gn off lim, some o => some (.ptr id gn (off + o) lim) | _, _ => none
theorem fieldP_ptr {id gn off lim o : Nat} : Az (.ptr id gn off lim) (some o) = some (.ptr id gn (off + o) lim) := rfl
theorem Bc {s : TypeId} {x : Tmp} {f : Nat} {v u : AV} (hx : sl F x = v) (h : Az v (fieldAt cx s f) = some u) : bq cx F S ⟨dst, .fieldAddr s (.tmp x) f, ty, pos, af, g⟩ = .val u S := by
 unfold Az at h
 split at h
 ·rename_i id gn off lim o ho
  cases h
  unfold fieldAt at ho
  split at ho
  ·rename_i fs hu
   split at ho
   ·rename_i fd hf
    split at ho
    ·rename_i z hz
     cases ho
     exact xU ((ay F x).trans hx) hu hf hz
    ·cases ho
   ·cases ho
  ·cases ho
 ·cases h
def AA (cx : Cx) (s : TypeId) (f : Nat) (cs : List AV) : Option AV := match aZ cx s with
 | some (.struct fs) => match fs[f]? with
  | some fd => partOf cx fd.type cs fd.offset
  | none => none
 | _ => none
def fieldV (cx : Cx) (s : TypeId) (f : Nat) (v : AV) : Option AV := match v with | .agg cs => AA cx s f cs | _ => none
theorem fieldV_agg {s : TypeId} {f : Nat} {cs : List AV} : fieldV cx s f (.agg cs) = AA cx s f cs := rfl
theorem Bb {s : TypeId} {x : Tmp} {f : Nat} {v u : AV} (hx : sl F x = v) (h : fieldV cx s f v = some u) : bq cx F S ⟨dst, .field s (.tmp x) f, ty, pos, af, g⟩ = .val u S := by
 unfold fieldV at h
 split at h
 ·rename_i cs
  unfold AA at h
  split at h
  ·rename_i fs hu
   split at h
   ·rename_i fd hf
    rw [aop_field ((ay F x).trans hx) hu hf, h]; rfl
   ·cases h
  ·cases h
 ·cases h
def wrV (S : AS) (v : AV) (cs : List AV) : Option AS := match v with | .ptr id gn off lim => wr S id gn off lim cs | _ => none
theorem zC {id gn off lim : Nat} {cs : List AV} : wrV S (.ptr id gn off lim) cs = wr S id gn off lim cs := rfl
theorem A7 {t : TypeId} {x : Tmp} {y : Operand} {v : AV} {n : Nat} {cs : List AV} {S' : AS} (hx : sl F x = v) (hy : cellsOf (eval F y) = some cs) (hs : aw cx t = some n) (hl : cs.length = n)
  (hw : wrV S v cs = some S') : bq cx F S ⟨dst, .store t (.tmp x) y, ty, pos, af, g⟩ = .val .undef S' := by
 unfold wrV at hw
 split at hw
 ·exact aop_store ((ay F x).trans hx) hy hs hl hw
 ·cases hw
def wv (cx : Cx) (t : TypeId) : Bool := match aZ cx t with | none => false | some (.interface _) => false | some _ => true
theorem xP {t : TypeId} {x : Operand} (h : wv cx t = true) : bq cx F S ⟨dst, .makeInterface t x, ty, pos, af, g⟩ = .val (.iface t (eval F x)) S := by
 unfold wv at h
 cases hu : aZ cx t with
 | none => rw [hu] at h; cases h
 | some d =>
  rw [hu] at h;refine Dz hu ?_
  cases d <;> first | rfl | cases h
theorem assert_yes {t : TypeId} {v : AV} (h : wv cx t = true) : iZ cx (.iface t v) t true = some (.tuple [v, .bool true]) := by
 unfold wv at h;unfold iZ
 split
 ·rename_i hu; rw [hu] at h; cases h
 ·rename_i hu; rw [hu] at h; cases h
 ·simp [aK]
theorem assert_no {t u : TypeId} {v z : AV} (h : wv cx t = true) (bO : (u == t) = false) (hz : zeroOf cx t = some z) : iZ cx (.iface u v) t true = some (.tuple [z, .bool false]) := by
 unfold wv at h;unfold iZ
 split
 ·rename_i hu; rw [hu] at h; cases h
 ·rename_i hu; rw [hu] at h; cases h
 ·have : ¬ u = t := by simpa using bO
  simp [aK, this, hz]
theorem assert_nil {t : TypeId} {z : AV} (h : wv cx t = true) (hz : zeroOf cx t = some z) : iZ cx .bN t true = some (.tuple [z, .bool false]) := by
 unfold wv at h;unfold iZ
 split
 ·rename_i hu; rw [hu] at h; cases h
 ·rename_i hu; rw [hu] at h; cases h
 ·simp [hz]
def nthT (v : AV) (i : Nat) : Option AV := match v with | .tuple vs => vs[i]? | _ => none
theorem EX {vs : List AV} {i : Nat} : nthT (.tuple vs) i = vs[i]? := rfl
theorem wK {x : Tmp} {i : Nat} {v u : AV} (hx : sl F x = v) (h : nthT v i = some u) : bq cx F S ⟨dst, .extract (.tmp x) i, ty, pos, af, g⟩ = .val u S := by
 unfold nthT at h
 split at h
 ·simp only [oe, ay, hx, fP, h]; rfl
 ·cases h
theorem bin_str {op : BinOp} {t : TypeId} {c : Bool} {a b : List Nat} : cK cx op t c (.str a) (.str b) = A3 op a b := by unfold cK; rfl
theorem binS_lss {a b : List Nat} : A3 .lss a b = some (.bool (gq a b)) := rfl
theorem binS_gtr {a b : List Nat} : A3 .gtr a b = some (.bool (gq b a)) := rfl
theorem binS_eql {a b : List Nat} : A3 .eql a b = some (.bool (fX a b)) := rfl
theorem binS_neq {a b : List Nat} : A3 .neq a b = some (.bool (!fX a b)) := rfl
theorem Dr {t : TypeId} {c : Bool} {a b : List AV} {r : Bool} (h : DW cx t c (.agg a) (.agg b) = some r) : cK cx .eql t c (.agg a) (.agg b) = some (.bool r) := by
 simp only [cK, h]
theorem un_neg {k : IntKind} {n : Int} : unV .neg (.int k n) = some (.int k (k.wrap (0 - n))) := by
 show some (mkI k (Int.sub 0 n)) = _;rw [gp]; rfl
theorem zm {f : FuncId} {x : Xf} {first captured as : List AV} (h : cx.exts.get f = some x) : mU cx S (.func (.func f) first captured) as = val? (extS x S (first ++ (as ++ captured))) S 101 := by
 simp only [mU, h, bd]
theorem ext_cmp {a b : List Nat} : extS .iS S [.str a, .str b] = some (cond (gq a b) (.int .i64 (-1)) (cond (fX a b) (.int .i64 0) (.int .i64 1))) := rfl
theorem min_two {ts : List TypeId} {k : IntKind} {a b : Int} : aJ cx S .min ts [.int k a, .int k b] = .val (.int k (if b < a then b else a)) S := by
 show val? (bif iO k k then foldI (fun n m => !ltI m n) k (bif !ltI b a then a else b) [] else none) S 10 = _
 rw [lE, j5]
 by_cases h : b < a <;> simp [h, foldI, val?]
def soleL (o : Option (List AV)) : Option AV := match o with | some [v] => some v | _ => none
theorem soleL_one {v : AV} : soleL (some [v]) = some v := rfl
def aggL (o : Option (List AV)) : Option AV := match o with | some cs => some (.agg cs) | none => none
theorem te {cs : List AV} : aggL (some cs) = some (.agg cs) := rfl
def loadK (S : AS) (a : Option Bool) (z : Option Nat) (id gn off lim : Nat) : Option AV := match a, z with
 | some true, some n => aggL (rdO (S.h.get id) gn off n lim)
 | some false, _ => soleL (rdO (S.h.get id) gn off 1 lim)
 | _, _ => none
theorem sk {id gn off lim n : Nat} : loadK S (some true) (some n) id gn off lim = aggL (rdO (S.h.get id) gn off n lim) := rfl
theorem sh {id gn off lim : Nat} {z : Option Nat} : loadK S (some false) z id gn off lim = soleL (rdO (S.h.get id) gn off 1 lim) := by cases z <;> rfl
theorem nK {t : TypeId} {id gn off lim : Nat} : mO cx S t (.ptr id gn off lim) = loadK S (aE cx t) (aw cx t) id gn off lim := by
 unfold mO loadK
 cases aE cx t with
 | none => rfl
 | some b =>
  cases b with
  | true =>
   cases aw cx t with
   | none => rfl
   | some n =>
    simp only [fV, aggL]
    cases rdO (S.h.get id) gn off n lim <;> rfl
  | false =>
   simp only [fV, soleL]
   cases aw cx t <;> rfl
def CZ (place : Nat → Option (Nat × Nat)) : List (Nat × AV) → List AV → Option (List AV)
 | [], cells => some cells
 | p :: l, cells => match place p.1, cellsOf p.2 with
  | some (off, size), some new => cond (Nat.beq (cZ new) size && Nat.ble (Nat.add off size) (cZ cells)) (CZ place l (dg off cells new)) none
  | _, _ => none
theorem tG {pl : Nat → Option (Nat × Nat)} : ∀ (parts : List (Nat × Operand)) (cells : List AV), ew cx F pl parts cells = CZ pl (parts.map fun p => (p.1, eval F p.2)) cells
 | [], _ => rfl
 | p :: l, cells => by
  show (match pl p.1, cellsOf (eval F p.2) with
   | some (off, size), some new => cond (Nat.beq (cZ new) size && Nat.ble (Nat.add off size) (cZ cells)) (ew cx F pl l (dg off cells new)) none
   | _, _ => none) = _
  simp only [List.map_cons, CZ, tG l]
def kJ (cx : Cx) (t : TypeId) (parts : List (Nat × AV)) : Option AV :=
 match zeroOf cx t with
 | none => none
 | some z => match cellsOf z, aZ cx t with
  | some zero, some (.struct fs) => match mj cx fs.toList with
   | some ps => match CZ (fun i => nth i ps) parts zero with
    | some cells => some (.agg cells)
    | none => none
   | none => none
  | some zero, some (.array _ e) => match aw cx e with
   | some sz => match CZ (fun i => some (Nat.mul i sz, sz)) parts zero with
    | some cells => some (.agg cells)
    | none => none
   | none => none
  | _, _ => none
theorem buildV_A {t : TypeId} {parts : List (Nat × Operand)} : mF cx F t parts = kJ cx t (parts.map fun p => (p.1, eval F p.2)) := by
 unfold mF kJ;simp only [tG]
 rfl
theorem okV_bool {b : Bool} : oW (.bool b) = true := rfl
theorem okV_int {k : IntKind} {n : Int} : oW (.int k n) = true := rfl
theorem okV_str {s : List Nat} : oW (.str s) = true := rfl
theorem okV_nilp : oW .dT = true := rfl
theorem okV_ptr {a b c d : Nat} : oW (.ptr a b c d) = true := rfl
theorem okV_nils : oW .aH = true := rfl
theorem okV_slice {a b c d e f : Nat} {h : Option Nat} : oW (.slice a b c d e f h) = true := rfl
theorem okV_nilm : oW .gm = true := rfl
theorem okV_map {a : Nat} : oW (.map a) = true := rfl
theorem okV_nilf : oW .jE = true := rfl
theorem ER : oW .bN = true := rfl
theorem okV_iface {t : TypeId} {v : AV} : oW (.iface t v) = od v := rfl
theorem okV_agg {l : List AV} : oW (.agg l) = jm l := rfl
theorem okV_tuple {l : List AV} : oW (.tuple l) = jm l := rfl
theorem nx2 (n : Nat) : n + 1 + 1 = n + 2 := rfl
theorem nx3 (n : Nat) : n + 2 + 1 = n + 3 := rfl
theorem nx4 (n : Nat) : n + 3 + 1 = n + 4 := rfl
theorem nx5 (n : Nat) : n + 4 + 1 = n + 5 := rfl
theorem nx6 (n : Nat) : n + 5 + 1 = n + 6 := rfl
end
attribute [-simp] oe
attribute [simp] min_two nx2 nx3 nx4 nx5 nx6 buildV_A nK sk sh te soleL_one lenL_lit nY Dl AT Di xK wB AM AN Dj xJ boxV_some freshV_box DE Ay uG
 fV dQ yb ox l4 lC DC fieldP_ptr Bc fieldV_agg Bb zC A7 EX wK xP assert_yes assert_no assert_nil bin_str binS_lss binS_gtr binS_eql binS_neq un_neg zm ext_cmp
 D5 Bx skont_app okV_undef okV_bool okV_int okV_str okV_nilp okV_ptr okV_nils okV_slice okV_nilm okV_map okV_nilf ER okV_iface okV_agg okV_tuple od jm
end Go.Am
end
