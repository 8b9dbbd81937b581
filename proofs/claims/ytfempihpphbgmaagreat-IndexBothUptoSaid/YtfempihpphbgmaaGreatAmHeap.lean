/-
  The abstract machine: memory, as rules for simp.
-/
import Derived.Test.YtfempihpphbgmaaGreatAmStill
noncomputable section
namespace Go.Am
open Go
set_option linter.unusedSimpArgs false
section
variable {cx : Cx} {ops : List Oper} {F : Fr} {S : AS}
variable {dst : Option Tmp} {ty : TypeId} {pos : String} {af : Array Edge} {g : Option (Nat × Bool)}
theorem lenL_lit {α : Type} (l : List α) : lenL l = l.length := zaI l
theorem cellsOf_agg {cs : List AV} : cellsOf (.agg cs) = some cs := rfl
theorem cellsOf_int {k : IntKind} {n : Int} : cellsOf (.int k n) = some [.int k n] := rfl
theorem cellsOf_bool {b : Bool} : cellsOf (.bool b) = some [.bool b] := rfl
theorem cellsOf_str {s : List Nat} : cellsOf (.str s) = some [.str s] := rfl
theorem cellsOf_iface {t : TypeId} {v : AV} : cellsOf (.iface t v) = some [.iface t v] := rfl
theorem cellsOf_niface : cellsOf .niface = some [.niface] := rfl
theorem cellsOf_nils : cellsOf .nils = some [.nils] := rfl
theorem cellsOf_nilp : cellsOf .nilp = some [.nilp] := rfl
theorem cellsOf_ptr {a b c d : Nat} : cellsOf (.ptr a b c d) = some [.ptr a b c d] := rfl
theorem cellsOf_slice {a b c d e f : Nat} {h : Option Nat} : cellsOf (.slice a b c d e f h) = some [.slice a b c d e f h] := rfl
def boxV (id : Nat) (t : TypeId) (cs : Option (List AV)) : Option (AV × AObj) := match cs with | some cs => some (.ptr id 0 0 cs.length, .row cs 0 0 false t) | none => none
theorem boxV_some {id : Nat} {t : TypeId} {cs : List AV} : boxV id t (some cs) = some (.ptr id 0 0 cs.length, .row cs 0 0 false t) := rfl
theorem freshV_box {id : Nat} {t : TypeId} {x : Operand} : freshV cx F id (.box t x) = boxV id t (cellsOf (eval F x)) := by
 unfold freshV boxV
 simp only [zaI]
 cases cellsOf (eval F x) <;> rfl
def allocV (id : Nat) (e : TypeId) (z : Option AV) : Option (AV × AObj) := match z with | some z => boxV id e (cellsOf z) | none => none
theorem allocV_some {id : Nat} {e : TypeId} {z : AV} : allocV id e (some z) = boxV id e (cellsOf z) := rfl
theorem freshV_alloc {id : Nat} {e : TypeId} : freshV cx F id (.alloc e) = allocV id e (zeroOf cx e) := by
 unfold freshV allocV boxV
 simp only [zaI]
 cases zeroOf cx e with
 | none => rfl
 | some z => simp only []; cases cellsOf z <;> rfl
def rdO (o : Option AObj) (gn off n lim : Nat) : Option (List AV) := match o with
 | some (.row cells low top _ _) => if low ≤ gn ∧ gn ≤ top ∧ off + n ≤ lim then some ((cells.drop off).take n) else none
 | _ => none
theorem zbJ {cells : List AV} {low top gn off n lim : Nat} {frz : Bool} {e : TypeId} : rdO (some (.row cells low top frz e)) gn off n lim = if low ≤ gn ∧ gn ≤ top ∧ off + n ≤ lim then some ((cells.drop off).take n) else none := rfl
theorem rd_at {id gn off n lim : Nat} : rd S id gn off n lim = rdO (S.h.get id) gn off n lim := by
 unfold rd rdO
 cases S.h.get id with
 | none => rfl
 | some o =>
  cases o with
  | map es c => rfl
  | oth x => rfl
  | row cells low top frz e =>
   simp only [nble, show Nat.add off n = off + n from rfl, zaO, zaS]
   by_cases h1 : low ≤ gn <;> by_cases h2 : gn ≤ top <;> by_cases h3 : off + n ≤ lim <;> simp [h1, h2, h3]
def wrO (S : AS) (id : Nat) (o : Option AObj) (gn off lim : Nat) (new : List AV) : Option AS := match o with
 | some (.row cells _ top frz e) => if gn = top ∧ off + new.length ≤ lim ∧ frz = false then some ⟨S.h.set id (.row (splice off cells new) top top false e), S.next⟩ else none
 | _ => none
theorem wrO_row {id : Nat} {cells new : List AV} {low top gn off lim : Nat} {frz : Bool} {e : TypeId} : wrO S id (some (.row cells low top frz e)) gn off lim new = if gn = top ∧ off + new.length ≤ lim ∧ frz = false then some ⟨S.h.set id (.row (splice off cells new) top top false e), S.next⟩ else none := rfl
theorem wr_at {id gn off lim : Nat} {new : List AV} : wr S id gn off lim new = wrO S id (S.h.get id) gn off lim new := by
 unfold wr wrO
 cases S.h.get id with
 | none => rfl
 | some o =>
  cases o with
  | map es c => rfl
  | oth x => rfl
  | row cells low top frz e =>
   simp only [nbeq, nble, zaI, show Nat.add off new.length = off + new.length from rfl]
   by_cases h1 : gn = top <;> by_cases h2 : off + new.length ≤ lim <;> cases frz <;> simp [h1, h2]
theorem splice_lit {off : Nat} {cells new : List AV} (h : off ≤ cells.length) : splice off cells new = cells.take off ++ new ++ cells.drop (off + new.length) := zbW off cells new h
def loadT (cx : Cx) (S : AS) (t : TypeId) (v : AV) : Option AV := match v with | .ptr a b c d => loadV cx S t (.ptr a b c d) | _ => none
theorem loadT_ptr {t : TypeId} {a b c d : Nat} : loadT cx S t (.ptr a b c d) = loadV cx S t (.ptr a b c d) := rfl
theorem aop_load_at {t : TypeId} {x : Tmp} {v u : AV} (hx : sl F x = v) (h : loadT cx S t v = some u) : aop cx F S ⟨dst, .load t (.tmp x), ty, pos, af, g⟩ = .val u S := by
 unfold loadT at h
 split at h
 ·exact aop_load ((zaE F x).trans hx) h
 ·cases h
def fieldAt (cx : Cx) (s : TypeId) (f : Nat) : Option Nat := match und cx s with
 | some (.struct fs) => match fs[f]? with
  | some fd => match szOf cx fd.type with
   | some (_ + 1) => some fd.offset
   | _ => none
  | none => none
 | _ => none
def fieldP (v : AV) (o : Option Nat) : Option AV := match v, o with | .ptr id gn off lim, some o => some (.ptr id gn (off + o) lim) | _, _ => none
theorem fieldP_ptr {id gn off lim o : Nat} : fieldP (.ptr id gn off lim) (some o) = some (.ptr id gn (off + o) lim) := rfl
theorem aop_field_at {s : TypeId} {x : Tmp} {f : Nat} {v u : AV} (hx : sl F x = v) (h : fieldP v (fieldAt cx s f) = some u) : aop cx F S ⟨dst, .fieldAddr s (.tmp x) f, ty, pos, af, g⟩ = .val u S := by
 unfold fieldP at h
 split at h
 ·rename_i id gn off lim o ho
  cases h
  unfold fieldAt at ho
  split at ho
  ·rename_i fs hu
   split at ho
   ·rename_i fd hf
    split at ho
    ·rename_i z hz
     cases ho
     exact aop_fieldAddr ((zaE F x).trans hx) hu hf hz
    ·cases ho
   ·cases ho
  ·cases ho
 ·cases h
def fieldOf (cx : Cx) (s : TypeId) (f : Nat) (cs : List AV) : Option AV := match und cx s with
 | some (.struct fs) => match fs[f]? with
  | some fd => partOf cx fd.type cs fd.offset
  | none => none
 | _ => none
def fieldV (cx : Cx) (s : TypeId) (f : Nat) (v : AV) : Option AV := match v with | .agg cs => fieldOf cx s f cs | _ => none
theorem fieldV_agg {s : TypeId} {f : Nat} {cs : List AV} : fieldV cx s f (.agg cs) = fieldOf cx s f cs := rfl
theorem aop_field_of {s : TypeId} {x : Tmp} {f : Nat} {v u : AV} (hx : sl F x = v) (h : fieldV cx s f v = some u) : aop cx F S ⟨dst, .field s (.tmp x) f, ty, pos, af, g⟩ = .val u S := by
 unfold fieldV at h
 split at h
 ·rename_i cs
  unfold fieldOf at h
  split at h
  ·rename_i fs hu
   split at h
   ·rename_i fd hf
    rw [aop_field ((zaE F x).trans hx) hu hf, h]; rfl
   ·cases h
  ·cases h
 ·cases h
def wrV (S : AS) (v : AV) (cs : List AV) : Option AS := match v with | .ptr id gn off lim => wr S id gn off lim cs | _ => none
theorem wrV_ptr {id gn off lim : Nat} {cs : List AV} : wrV S (.ptr id gn off lim) cs = wr S id gn off lim cs := rfl
theorem aop_store_at {t : TypeId} {x : Tmp} {y : Operand} {v : AV} {n : Nat} {cs : List AV} {S' : AS} (hx : sl F x = v) (hy : cellsOf (eval F y) = some cs) (hs : szOf cx t = some n) (hl : cs.length = n)
  (hw : wrV S v cs = some S') : aop cx F S ⟨dst, .store t (.tmp x) y, ty, pos, af, g⟩ = .val .undef S' := by
 unfold wrV at hw
 split at hw
 ·exact aop_store ((zaE F x).trans hx) hy hs hl hw
 ·cases hw
def conc (cx : Cx) (t : TypeId) : Bool := match und cx t with | none => false | some (.interface _) => false | some _ => true
theorem aop_mkiface_c {t : TypeId} {x : Operand} (h : conc cx t = true) : aop cx F S ⟨dst, .makeInterface t x, ty, pos, af, g⟩ = .val (.iface t (eval F x)) S := by
 unfold conc at h
 cases hu : und cx t with
 | none => rw [hu] at h; cases h
 | some d =>
  rw [hu] at h
  refine aop_mkiface hu ?_
  cases d <;> first | rfl | cases h
theorem assert_yes {t : TypeId} {v : AV} (h : conc cx t = true) : assertV cx (.iface t v) t true = some (.tuple [v, .bool true]) := by
 unfold conc at h
 unfold assertV
 split
 ·rename_i hu; rw [hu] at h; cases h
 ·rename_i hu; rw [hu] at h; cases h
 ·simp [nbeq]
theorem assert_no {t u : TypeId} {v z : AV} (h : conc cx t = true) (hne : (u == t) = false) (hz : zeroOf cx t = some z) : assertV cx (.iface u v) t true = some (.tuple [z, .bool false]) := by
 unfold conc at h
 unfold assertV
 split
 ·rename_i hu; rw [hu] at h; cases h
 ·rename_i hu; rw [hu] at h; cases h
 ·have : ¬ u = t := by simpa using hne
  simp [nbeq, this, hz]
theorem assert_nil {t : TypeId} {z : AV} (h : conc cx t = true) (hz : zeroOf cx t = some z) : assertV cx .niface t true = some (.tuple [z, .bool false]) := by
 unfold conc at h
 unfold assertV
 split
 ·rename_i hu; rw [hu] at h; cases h
 ·rename_i hu; rw [hu] at h; cases h
 ·simp [hz]
def nthT (v : AV) (i : Nat) : Option AV := match v with | .tuple vs => vs[i]? | _ => none
theorem nthT_tuple {vs : List AV} {i : Nat} : nthT (.tuple vs) i = vs[i]? := rfl
theorem aop_extract_at {x : Tmp} {i : Nat} {v u : AV} (hx : sl F x = v) (h : nthT v i = some u) : aop cx F S ⟨dst, .extract (.tmp x) i, ty, pos, af, g⟩ = .val u S := by
 unfold nthT at h
 split at h
 ·simp only [aop_extract, zaE, hx, nth_eq, h]; rfl
 ·cases h
theorem bin_str {op : BinOp} {t : TypeId} {c : Bool} {a b : List Nat} : binV cx op t c (.str a) (.str b) = binS op a b := by unfold binV; rfl
theorem binS_lss {a b : List Nat} : binS .lss a b = some (.bool (ltS a b)) := rfl
theorem binS_gtr {a b : List Nat} : binS .gtr a b = some (.bool (ltS b a)) := rfl
theorem binS_eql {a b : List Nat} : binS .eql a b = some (.bool (eqS a b)) := rfl
theorem binS_neq {a b : List Nat} : binS .neq a b = some (.bool (!eqS a b)) := rfl
theorem bin_eql_agg {t : TypeId} {c : Bool} {a b : List AV} {r : Bool} (h : eqV cx t c (.agg a) (.agg b) = some r) : binV cx .eql t c (.agg a) (.agg b) = some (.bool r) := by
 simp only [binV, h]
theorem un_neg {k : IntKind} {n : Int} : unV .neg (.int k n) = some (.int k (k.wrap (0 - n))) := by
 show some (mkI k (Int.sub 0 n)) = _
 rw [mkI_eq]; rfl
theorem callV_ext {f : FuncId} {x : Xf} {first captured as : List AV} (h : cx.exts.get f = some x) : callV cx S (.func (.func f) first captured) as = val? (extS x S (first ++ (as ++ captured))) S 101 := by
 simp only [callV, h, zaK]
theorem ext_cmp {a b : List Nat} : extS .cmpstr S [.str a, .str b] = some (cond (ltS a b) (.int .i64 (-1)) (cond (eqS a b) (.int .i64 0) (.int .i64 1))) := rfl
theorem min_two {ts : List TypeId} {k : IntKind} {a b : Int} : builtinV cx S .min ts [.int k a, .int k b] = .val (.int k (if b < a then b else a)) S := by
 show val? (bif kindEq k k then foldI (fun n m => !ltI m n) k (bif !ltI b a then a else b) [] else none) S 10 = _
 rw [kind_self, ltI_eq]
 by_cases h : b < a <;> simp [h, foldI, val?]
def soleL (o : Option (List AV)) : Option AV := match o with | some [v] => some v | _ => none
theorem soleL_one {v : AV} : soleL (some [v]) = some v := rfl
def aggL (o : Option (List AV)) : Option AV := match o with | some cs => some (.agg cs) | none => none
theorem aggL_some {cs : List AV} : aggL (some cs) = some (.agg cs) := rfl
def loadK (S : AS) (a : Option Bool) (z : Option Nat) (id gn off lim : Nat) : Option AV := match a, z with
 | some true, some n => aggL (rdO (S.h.get id) gn off n lim)
 | some false, _ => soleL (rdO (S.h.get id) gn off 1 lim)
 | _, _ => none
theorem loadK_agg {id gn off lim n : Nat} : loadK S (some true) (some n) id gn off lim = aggL (rdO (S.h.get id) gn off n lim) := rfl
theorem loadK_one {id gn off lim : Nat} {z : Option Nat} : loadK S (some false) z id gn off lim = soleL (rdO (S.h.get id) gn off 1 lim) := by cases z <;> rfl
theorem loadV_at {t : TypeId} {id gn off lim : Nat} : loadV cx S t (.ptr id gn off lim) = loadK S (aggOf cx t) (szOf cx t) id gn off lim := by
 unfold loadV loadK
 cases aggOf cx t with
 | none => rfl
 | some b =>
  cases b with
  | true =>
   cases szOf cx t with
   | none => rfl
   | some n =>
    simp only [rd_at, aggL]
    cases rdO (S.h.get id) gn off n lim <;> rfl
  | false =>
   simp only [rd_at, soleL]
   cases szOf cx t <;> rfl
def fillA (place : Nat → Option (Nat × Nat)) : List (Nat × AV) → List AV → Option (List AV)
 | [], cells => some cells
 | p :: l, cells => match place p.1, cellsOf p.2 with
  | some (off, size), some new => cond (Nat.beq (lenL new) size && Nat.ble (Nat.add off size) (lenL cells)) (fillA place l (splice off cells new)) none
  | _, _ => none
theorem fillL_fillA {pl : Nat → Option (Nat × Nat)} : ∀ (parts : List (Nat × Operand)) (cells : List AV), fillL cx F pl parts cells = fillA pl (parts.map fun p => (p.1, eval F p.2)) cells
 | [], _ => rfl
 | p :: l, cells => by
  show (match pl p.1, cellsOf (eval F p.2) with
   | some (off, size), some new => cond (Nat.beq (lenL new) size && Nat.ble (Nat.add off size) (lenL cells)) (fillL cx F pl l (splice off cells new)) none
   | _, _ => none) = _
  simp only [List.map_cons, fillA, fillL_fillA l]
def buildA (cx : Cx) (t : TypeId) (parts : List (Nat × AV)) : Option AV :=
 match zeroOf cx t with
 | none => none
 | some z => match cellsOf z, und cx t with
  | some zero, some (.struct fs) => match placesL cx fs.toList with
   | some ps => match fillA (fun i => nth i ps) parts zero with
    | some cells => some (.agg cells)
    | none => none
   | none => none
  | some zero, some (.array _ e) => match szOf cx e with
   | some sz => match fillA (fun i => some (Nat.mul i sz, sz)) parts zero with
    | some cells => some (.agg cells)
    | none => none
   | none => none
  | _, _ => none
theorem buildV_A {t : TypeId} {parts : List (Nat × Operand)} : buildV cx F t parts = buildA cx t (parts.map fun p => (p.1, eval F p.2)) := by
 unfold buildV buildA
 simp only [fillL_fillA]
 rfl
theorem okV_bool {b : Bool} : okV (.bool b) = true := rfl
theorem okV_int {k : IntKind} {n : Int} : okV (.int k n) = true := rfl
theorem okV_str {s : List Nat} : okV (.str s) = true := rfl
theorem okV_nilp : okV .nilp = true := rfl
theorem okV_ptr {a b c d : Nat} : okV (.ptr a b c d) = true := rfl
theorem okV_nils : okV .nils = true := rfl
theorem okV_slice {a b c d e f : Nat} {h : Option Nat} : okV (.slice a b c d e f h) = true := rfl
theorem okV_nilm : okV .nilm = true := rfl
theorem okV_map {a : Nat} : okV (.map a) = true := rfl
theorem okV_nilf : okV .nilf = true := rfl
theorem okV_niface : okV .niface = true := rfl
theorem okV_iface {t : TypeId} {v : AV} : okV (.iface t v) = baseV v := rfl
theorem okV_agg {l : List AV} : okV (.agg l) = baseL l := rfl
theorem okV_tuple {l : List AV} : okV (.tuple l) = baseL l := rfl
theorem nx2 (n : Nat) : n + 1 + 1 = n + 2 := rfl
theorem nx3 (n : Nat) : n + 2 + 1 = n + 3 := rfl
theorem nx4 (n : Nat) : n + 3 + 1 = n + 4 := rfl
theorem nx5 (n : Nat) : n + 4 + 1 = n + 5 := rfl
theorem nx6 (n : Nat) : n + 5 + 1 = n + 6 := rfl
end
attribute [-simp] aop_extract
attribute [simp] min_two nx2 nx3 nx4 nx5 nx6 buildV_A loadV_at loadK_agg loadK_one aggL_some soleL_one lenL_lit cellsOf_agg cellsOf_int cellsOf_bool cellsOf_str cellsOf_iface cellsOf_niface cellsOf_nils cellsOf_nilp cellsOf_ptr cellsOf_slice boxV_some freshV_box allocV_some freshV_alloc get_set
 rd_at zbJ wr_at wrO_row splice_lit loadT_ptr aop_load_at fieldP_ptr aop_field_at fieldV_agg aop_field_of wrV_ptr aop_store_at nthT_tuple aop_extract_at aop_mkiface_c assert_yes assert_no assert_nil bin_str binS_lss binS_gtr binS_eql binS_neq un_neg callV_ext ext_cmp
 stillP_nil stillP_cons skont_app okV_undef okV_bool okV_int okV_str okV_nilp okV_ptr okV_nils okV_slice okV_nilm okV_map okV_nilf okV_niface okV_iface okV_agg okV_tuple baseV baseL
end Go.Am
end
