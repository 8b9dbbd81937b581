/-
  The abstract machine against the model: the operations that lay one block.
-/
import Derived.Test.YtfempihpphbgmaaGreatAmAppend
namespace Go.Am
open Go
variable {Λ : LB}
def Ac : Next → Option Value
 | .value x => some x
 | .skip => some undef
 | _ => none
def oq (ρ : aF) : bW → Obj → Prop
 | .row cells low top frz ty, o => low = 0 ∧ top = 0 ∧ frz = false ∧ ∃ C, o = .cells C ty ∧ cells.length ≤ C.size ∧ Cells ρ cells (C.toList.take cells.length) ∧ dG C
 | .map es clock, o => ∃ ES, o = .map ES clock ∧ dM ρ es ES.toList
 | .dS x, o => gE ρ x o
def zx (b : Nat) (pl : Pl) : bW → Obj → Prop
 | .row cells _ _ _ _, .cells C _ _ => pl.b = b ∧ pl.base = 0 ∧ pl.n = cells.length ∧ pl.N = C.size
 | .map _ _, .map _ _ => pl.b = b
 | .dS _, _ => pl.b = b ∧ pl.base = 0
 | _, _ => False
def uQ (P : Program) (ρ : aF) (w : World) (s : Sem Value) (id : Nat) (v : AV) (obj : bW) : Prop :=
 ∃ x o' w', s.run P w = .ok x w' ∧ iG o' w w' ∧ oq ρ obj o' ∧ ∀ ρ' pl, ρ' id 0 = some pl → zx w.heap.size pl obj o' → ah ρ' v x
theorem oq.mono {ρ ρ' : aF} (h : Ext ρ ρ') {obj : bW} {o' : Obj} (r : oq ρ obj o') : oq ρ' obj o' := by
 cases obj with
 | row cells low top frz ty =>
  obtain ⟨a, b, c, C, r1, r2, r3⟩ := r;exact ⟨a, b, c, C, r1, r2, r3.1.mono h, r3.2⟩
 | map es clock =>
  obtain ⟨ES, r1, r2⟩ := r;exact ⟨ES, r1, r2.mono h⟩
 | dS x => exact gE.mono h r
theorem R.fresh' {ρ : aF} {S : AS} {w w' : World} {obj : bW} {o' : Obj} (hR : R Λ ρ S w) (hg : iG o' w w') (ho : oq ρ obj o') :
  ∃ ρ' pl, ρ' S.next 0 = some pl ∧ zx w.heap.size pl obj o' ∧ R Λ ρ' ⟨S.h.set S.next obj, S.next + 1⟩ w' ∧ Kp ρ S w ρ' ⟨S.h.set S.next obj, S.next + 1⟩ w' := by
 cases obj with
 | row cells low top frz ty =>
  obtain ⟨rfl, rfl, rfl, C, rfl, r2, r3⟩ := ho;obtain ⟨ρ', pl, p1, p2, p3, p4, p5, p6, p7⟩ := hR.newRow hg r3.1.1 r2 r3.2;exact ⟨ρ', pl, p1, ⟨p2, p3, p4, p5⟩, p6, p7⟩
 | map es clock =>
  obtain ⟨ES, rfl, r2⟩ := ho;obtain ⟨ρ', pl, p1, p2, p6, p7⟩ := hR.newMap hg r2;exact ⟨ρ', pl, p1, p2, p6, p7⟩
 | dS x =>
  obtain ⟨ρ', pl, p1, p2, p3, p6, p7⟩ := hR.Ad hg ho;exact ⟨ρ', pl, p1, ⟨p2, p3⟩, p6, p7⟩
theorem uQ.DM {P : Program} {ρ : aF} {S : AS} {w : World} {s : Sem Value} {v : AV} {obj : bW} (hR : R Λ ρ S w) (h : uQ P ρ w s S.next v obj) :
  oh Λ P ρ S w s v ⟨S.h.set S.next obj, Nat.succ S.next⟩ := by
 obtain ⟨x, o', w', r1, r2, r3, r4⟩ := h;obtain ⟨ρ', pl, p1, p2, p3, p4⟩ := hR.fresh' r2 r3;exact ⟨x, ρ', w', r1, r4 ρ' pl p1 p2, p3, p4⟩
theorem oC {ρ : aF} {cells : List AV} {C : Array Value} {e : TypeId} (hc : Cells ρ cells C.toList) :
  oq ρ (.row cells 0 0 false e) (.cells C e) :=
 ⟨rfl, rfl, rfl, C, rfl, by have := hc.length; simp at this; omega, by rw [List.take_of_length_le (by have := hc.length; omega)]; exact hc, dG.of hc.2⟩
theorem nw {ρ : aF} {zero : List AV} {z : Array Value} (h : Cells ρ zero z.toList) : ∀ n, Cells ρ (fG n zero) (List.flatten (List.replicate n z.toList)) := by
 intro n; induction n with
 | zero => exact ⟨al.nil, fun x hx => by simp at hx⟩
 | succ n ih =>
  have : fG (n + 1) zero = dB zero (fG n zero) := rfl;rw [this, bd, List.replicate_succ, List.flatten_cons];exact h.append ih
theorem flat_get {α : Type} (l : List α) : ∀ (n i : Nat), i < n * l.length → (List.flatten (List.replicate n l))[i]? = l[i % l.length]? := by
 intro n; induction n with
 | zero => intro i h; omega
 | succ n ih =>
  intro i h;rw [List.replicate_succ, List.flatten_cons]
  by_cases hi : i < l.length
  ·rw [List.getElem?_append_left hi, Nat.mod_eq_of_lt hi]
  ·have h' : i < n * l.length + l.length := by rw [Nat.add_mul, Nat.one_mul] at h; exact h
   rw [List.getElem?_append_right (by omega), ih _ (by omega), ← Nat.mod_eq_sub_mod (by omega)]
theorem CV {α : Type} (l : List α) : ∀ n, (List.flatten (List.replicate n l)).length = n * l.length := by
 intro n; simp
theorem qB (z : Array Value) (n m : Nat) (hm : m = n * z.size) : ((Array.range m).map (z[· % z.size]!)).toList = List.flatten (List.replicate n z.toList) := by
 apply List.ext_getElem?
 intro i;rw [Array.toList_map, Array.toList_range, List.getElem?_map]
 by_cases hi : i < m
 ·rw [List.getElem?_range hi, flat_get _ _ _ (by simp; omega)]
  have hz : 0 < z.size := by
   rcases Nat.eq_zero_or_pos z.size with h | h
   ·rw [h] at hm; omega
   ·exact h
  have aL : i % z.size < z.size := Nat.mod_lt _ hz;simp only [Option.map_some, Array.length_toList];rw [getElem!_pos z (i % z.size) aL];simp [aL]
 ·rw [List.getElem?_eq_none (by simp; omega), List.getElem?_eq_none (by rw [CV]; simp; omega)]
  rfl
theorem yY {P : Program} {cx : Cx} (av : cX Λ P cx) {ρ : aF} {F : Fr} {a : Act} (hF : dL ρ F a) {id : Nat} {o : Oper} {v : AV} {obj : bW} (h : aI cx F id o.op = some (v, obj)) (w : World) :
  ∃ s : Sem Value, execOp a.eval o = (do pure (.value (← s))) ∧ uQ P ρ w s id v obj := by
 obtain ⟨dst, op, ty, pos, after, guard⟩ := o;simp only at h
 cases op <;> simp only [aI, reduceCtorEq] at h
 case alloc e =>
  cases hz : zeroOf cx e with
  | none => simp [hz] at h
  | some z =>
   simp only [hz] at h
   cases hc : cellsOf z with
   | none => simp [hc] at h
   | some cs =>
    simp only [hc, Option.some.injEq, Prod.mk.injEq] at h;obtain ⟨rfl, rfl⟩ := h;obtain ⟨zv, zr, kS⟩ := fT av hz;have j8 := db hc (kS ρ);refine ⟨_, rfl, .pointer (some ⟨w.heap.size, 0, none⟩), .cells zv.cells e, w.alloc (.cells zv.cells e), ?_, ⟨⟨rfl, rfl, rfl⟩, rfl⟩, oC j8, ?_⟩
    ·simp only [Instr.alloc, Sem.run_bind, zr, Result.andThen_ok, newVar, Go.newRow, run_newObj, Sem.run_pure]; rfl
    ·rintro ρ' pl hp ⟨e1, e2, e3, e4⟩
     simp only [ah];exact ⟨pl, hp, by rw [aU, e3]; exact Nat.le_refl _, by rw [e1, e2]⟩
 case box t x =>
  cases hc : cellsOf (eval F x) with
  | none => simp [hc] at h
  | some cs =>
   simp only [hc, Option.some.injEq, Prod.mk.injEq] at h;obtain ⟨rfl, rfl⟩ := h;have j8 := db hc (hF.eval x);refine ⟨_, rfl, .pointer (some ⟨w.heap.size, 0, none⟩), .cells (a.eval x).cells t, w.alloc (.cells (a.eval x).cells t), ?_, ⟨⟨rfl, rfl, rfl⟩, rfl⟩, oC j8, ?_⟩
   ·simp only [Instr.box, Sem.run_bind, Result.andThen_ok, newVar, Go.newRow, run_newObj, Sem.run_pure]; rfl
   ·rintro ρ' pl hp ⟨e1, e2, e3, e4⟩
    simp only [ah];exact ⟨pl, hp, by rw [aU, e3]; exact Nat.le_refl _, by rw [e1, e2]⟩
 case buildSlice t n parts =>
  cases hu : aZ cx t with
  | none => simp [hu] at h
  | some d =>
   rw [hu] at h
   cases d <;> simp only [reduceCtorEq] at h
   rename_i e
   split at h
   ·rename_i z zv hs hz
    cases hc : cellsOf zv with
    | none => simp [hc] at h
    | some zero =>
     simp only [hc, aK, cg, aU, Nat.mul_eq, Nat.succ_eq_add_one] at h
     cases Bm : (decide (zero.length = z + 1) && decide (n * (z + 1) ≤ 16777216)) with
     | false => simp [Bm] at h
     | true =>
      simp only [Bm, cond_true] at h;simp only [Bool.and_eq_true, decide_eq_true_eq] at Bm;have hbig : n * (z + 1) ≤ 16777216 := Bm.2
      cases hf : ew cx F (fun i => some (i * (z + 1), z + 1)) parts.toList (fG n zero) with
      | none => simp [hf] at h
      | some cells =>
       simp only [hf, Option.some.injEq, Prod.mk.injEq] at h;obtain ⟨rfl, rfl⟩ := h;obtain ⟨zc, zr, kS⟩ := fT av hz;have Aq := db hc (kS ρ);have hzs : zc.cells.size = z + 1 := by have := Aq.length; simp at this; omega
       have hzero : Cells ρ (fG n zero) ((Array.range (n * (z + 1))).map (zc.cells[· % zc.cells.size]!)).toList := by
        rw [qB zc.cells n _ (by rw [hzs])]; exact nw Aq n
       obtain ⟨D, r1, r2⟩ := sK hF _ _ _ _ hf hzero;have hDs : D.size = n * (z + 1) := by
        have h1 := r2.length;have h2 : cells.length = (fG n zero).length := by
         clear r1 r2 h1 
         revert hf
         have gen : ∀ (l : List (Nat × Operand)) (c out : List AV), ew cx F (fun i => some (i * (z + 1), z + 1)) l c = some out → out.length = c.length := by
          intro l; induction l with
          | nil => intro c out hh; simp only [ew, Option.some.injEq] at hh; rw [hh]
          | cons p l ih =>
           intro c out hh;have hh' : (match cellsOf (eval F p.2) with
            | some new => cond (Nat.beq (cZ new) (z + 1) && Nat.ble (Nat.add (p.1 * (z + 1)) (z + 1)) (cZ c)) (ew cx F (fun i => some (i * (z + 1), z + 1)) l (dg (p.1 * (z + 1)) c new)) none
            | none => none) = some out := by
            have h0 : (match some (p.1 * (z + 1), z + 1), cellsOf (eval F p.2) with
             | some (off, size), some new => cond (Nat.beq (cZ new) size && Nat.ble (Nat.add off size) (cZ c)) (ew cx F (fun i => some (i * (z + 1), z + 1)) l (dg off c new)) none
             | _, _ => none) = some out := hh
            cases hcp : cellsOf (eval F p.2) <;> simp only [hcp] at h0 ⊢ <;> exact h0
           cases hcp : cellsOf (eval F p.2) with
           | none => simp [hcp] at hh'
           | some new =>
            simp only [hcp, aK, cg, aU, Nat.add_eq] at hh'
            cases yW : (decide (new.length = z + 1) && decide (p.1 * (z + 1) + (z + 1) ≤ c.length)) with
            | false => simp only [yW, cond_false, reduceCtorEq] at hh'
            | true =>
             simp only [yW, cond_true] at hh';simp only [Bool.and_eq_true, decide_eq_true_eq] at yW;rw [ih _ _ hh', pA _ _ _ (by omega)]
         exact gen _ _ _
        have h3 := (nw Aq n).length;rw [CV] at h3;simp only [Array.length_toList] at h1 h3;rw [← h1, h2, h3, hzs]
       refine ⟨_, rfl, .slice (some ⟨w.heap.size, 0, none⟩) n n, .cells D e, w.alloc (.cells D e), ?_, ⟨⟨rfl, rfl, rfl⟩, rfl⟩, oC r2, ?_⟩
       ·have hnb : ¬ (n * (z + 1) > 2 ^ 24) := by
         have : (2 : Nat) ^ 24 = 16777216 := by decide
         omega
        have r1' : Instr.fill (fun i => some (i * (z + 1), z + 1)) ((Array.range (n * (z + 1))).map (zc.cells[· % zc.cells.size]!)) (parts.toList.map fun p => (p.1, a.eval p.2)) = some D := r1
        simp only [Instr.buildSlice, Sem.run_bind, au av hu, Result.andThen_ok, dv av hs, Array.toList_map];rw [if_neg hnb]
        by_cases h0 : n * (z + 1) = 0
        ·have e0 : (Array.range (n * (z + 1))).map (zc.cells[· % zc.cells.size]!) = (Array.range (n * (z + 1))).map ((#[] : Array Value)[· % (#[] : Array Value).size]!) := by rw [h0]; apply Array.ext'; simp
         rw [e0] at r1';simp only [if_pos h0, Sem.run_bind, Sem.run_pure, Result.andThen_ok, r1', Go.newRow, run_newObj]; rfl
        ·simp only [if_neg h0, Sem.run_bind, zr, Sem.run_pure, Result.andThen_ok, r1', Go.newRow, run_newObj]; rfl
       ·rintro ρ' pl hp ⟨e1, e2, e3, e4⟩
        have pY : cells.length = n * (z + 1) := by have := r2.length; simp at this; omega
        refine ah.dr pl n hp (by rw [e3, pY]; exact Nat.le_refl _) (by show 0 + n * (z + 1) ≤ n * (z + 1); omega) (Nat.succ_pos _) (Nat.le_refl _) (.inl ⟨by rw [e1, e2], ?_, fun k hk => ?_⟩)
        ·rw [e2, e4, hDs]; show 0 + 0 + n * (z + 1) ≤ n * (z + 1); omega
        ·cases hk; exact ⟨rfl, by show 0 + n * (z + 1) ≤ n * (z + 1); omega⟩
   ·cases h
 case makeMap t r =>
  cases hu : aZ cx t with
  | none => simp [hu] at h
  | some d =>
   rw [hu] at h
   cases d <;> simp only [reduceCtorEq] at h
   rename_i kt et
   cases hh : pX F r with
   | false => simp [hh] at h
   | true =>
   simp only [hh, cond_true, Option.some.injEq, Prod.mk.injEq] at h;obtain ⟨rfl, rfl⟩ := h;have fin : (Instr.makeMap t (r.map a.eval)).run P w = .ok (.map (some w.heap.size)) (w.alloc (.map #[] 0)) → uQ P ρ w (Instr.makeMap t (r.map a.eval)) id (.map id) (.map [] 0) := by
    intro m7;refine ⟨_, .map #[] 0, _, m7, ⟨⟨rfl, rfl, rfl⟩, rfl⟩, ⟨#[], rfl, rfl, fun i e m he => by simp at he⟩, ?_⟩
    intro ρ' pl hp e1;simp only [ah];have e1' : pl.b = w.heap.size := e1;exact ⟨pl, hp, by rw [e1']⟩
   cases r with
   | none =>
    refine ⟨_, rfl, fin ?_⟩;simp only [Instr.makeMap, Option.map_none, Sem.run_bind, run_newObj, Result.andThen_ok, Sem.run_pure]; rfl
   | some x =>
    cases hn : fc (eval F x) with
    | none => simp [pX, hn, su] at hh
    | some n =>
     refine ⟨_, rfl, fin ?_⟩;obtain ⟨k, hk⟩ := eV hn (hF.eval x);simp only [Instr.makeMap, Option.map_some, Sem.run_bind, au av hu, hk, asInt, asIntOf, run_newObj, Result.andThen_ok, Sem.run_pure]; rfl
 case makeSlice t lx cx' =>
  cases hu : aZ cx t with
  | none => simp [hu] at h
  | some d =>
   rw [hu] at h
   cases hl : fc (eval F lx) with
   | none => rw [hl] at h; cases d <;> simp at h
   | some l =>
    cases vT : fc (eval F cx') with
    | none => rw [hl, vT] at h; cases d <;> simp at h
    | some c =>
     rw [hl, vT] at h
     cases d <;> simp only [reduceCtorEq] at h
     rename_i e
     split at h
     ·rename_i z bs zv hs hb hz
      cases hc : cellsOf zv with
      | none => simp [hc] at h
      | some zero =>
       simp only [hc, aK, cg, aU, Nat.succ_eq_add_one] at h
       cases Bm : (decide (zero.length = z + 1) && decide (l ≤ c) && fits c bs) with
       | false => simp [Bm] at h
       | true =>
        simp only [Bm, cond_true, Option.some.injEq, Prod.mk.injEq] at h;obtain ⟨rfl, rfl⟩ := h;simp only [Bool.and_eq_true, decide_eq_true_eq, fits, cg] at Bm;obtain ⟨⟨hzl, hlc⟩, yX, yW⟩ := Bm;have hc2' : c * bs ≤ 140737488355328 := yW;obtain ⟨zc, zr, kS⟩ := fT av hz;have Aq := db hc (kS ρ);have hzs : zc.cells.size = z + 1 := by have := Aq.length; simp at this; omega
        let D := (Array.range (c * (z + 1))).map (zc.cells[· % zc.cells.size]!)
        have hD : Cells ρ (fG c zero) D.toList := by
         show Cells ρ (fG c zero) ((Array.range (c * (z + 1))).map (zc.cells[· % zc.cells.size]!)).toList
         rw [qB zc.cells c _ (by rw [hzs])]; exact nw Aq c
        have hDs : D.size = c * (z + 1) := by simp [D]
        have hrl : (fG c zero).length = c * (z + 1) := by have := hD.length; simp only [Array.length_toList] at this; omega
        refine ⟨_, rfl, .slice (some ⟨w.heap.size, 0, none⟩) l c, .cells D e, w.alloc (.cells D e), ?_, ⟨⟨rfl, rfl, rfl⟩, rfl⟩, oC hD, ?_⟩
        ·obtain ⟨k1, hk1⟩ := eV hl (hF.eval lx)
         obtain ⟨k2, xy⟩ := eV vT (hF.eval cx');have hi : ∃ i, cx.kO.get e = some i ∧ i.bytes = bs := by
          unfold bytesOf at hb
          cases hi : cx.kO.get e with
          | none => simp [hi] at hb
          | some i => simp only [hi, Option.some.injEq] at hb; exact ⟨i, rfl, hb⟩
         obtain ⟨i, hi, hib⟩ := hi;have w1 : IntKind.i64.wrap (l : Int) = l := IntWalk.i64_in _ (by omega)
         have w2 : IntKind.i64.wrap (c : Int) = c := IntWalk.i64_in _ (by omega)
         have e48 : ((2 : Int) ^ 48) = 281474976710656 := by decide
         have t1 : (decide ((c : Int) < 0) || decide ((i.bytes : Int) * (c : Int) > 2 ^ 48) || decide ((l : Int) < 0) || decide ((l : Int) > (c : Int))) = false := by
          rw [e48, hib];have : (bs : Int) * (c : Int) ≤ 140737488355328 := by
           rw [← Int.natCast_mul, Nat.mul_comm];omega
          rw [decide_eq_false (by omega), decide_eq_false (by omega), decide_eq_false (by omega), decide_eq_false (by omega)]; rfl
         simp only [Instr.makeSlice, Sem.run_bind, au av hu, Result.andThen_ok, hk1, xy, asInt, asIntOf, Sem.run_pure, nq av hi, w1, w2];rw [t1];simp only [Bool.false_eq_true, if_false, Sem.run_bind, run_askRoom, Result.andThen_ok, dv av hs, Int.toNat_natCast]
         by_cases h0 : c * (z + 1) = 0
         ·have e0 : D = (Array.range (c * (z + 1))).map ((#[] : Array Value)[· % (#[] : Array Value).size]!) := by
           apply Array.ext'
           simp [D, h0]
          rw [e0, if_pos h0];simp only [Sem.run_bind, Sem.run_pure, Result.andThen_ok, Go.newRow, run_newObj]; rfl
         ·rw [if_neg h0]
          simp only [Sem.run_bind, zr, Sem.run_pure, Result.andThen_ok, Go.newRow, run_newObj]; rfl
        ·rintro ρ' pl hp ⟨e1, e2, e3, e4⟩
         have hlz : l * (z + 1) ≤ c * (z + 1) := Nat.mul_le_mul_right _ hlc;refine ah.dr pl c hp (by rw [e3, hrl]; exact Nat.le_refl _) (by show 0 + l * (z + 1) ≤ c * (z + 1); omega) (Nat.succ_pos _) hlc (.inl ⟨by rw [e1, e2], ?_, fun k hk => ?_⟩)
         ·rw [e2, e4, hDs]; show 0 + 0 + c * (z + 1) ≤ c * (z + 1); omega
         ·cases hk; exact ⟨rfl, by show 0 + c * (z + 1) ≤ c * (z + 1); omega⟩
     ·cases h
theorem growZ_run {P : Program} {cx : Cx} (av : cX Λ P cx) {ts : Array TypeId} {t u ty e : TypeId} {sz bs sLen sCap n : Nat} {base : Option Addr} {k ku : IntKind} {old : Array Value} {w : World} {zv : Value}
  (DO : ts[0]? = some t) (Au : ts[1]? = some u) (hu : aZ cx t = some (.slice e)) (lG : aZ cx u = some (.int ku)) (hs : aw cx e = some sz) (fi : 0 < sz) (hb : bytesOf cx e = some bs)
  (zr : ∀ w, (zeroValue e).run P w = .ok zv w) (hzs : zv.cells.size = sz) (hzo : ∀ v, v ∈ zv.cells.toList → v.oneCell' = true) (hn0 : 0 < n)
  (hgt : ¬ sLen + n ≤ sCap) (hf : fits (sLen + n) bs = true)
  (hold : ∀ k, (Builtin.firstCells sz sLen (.slice base sLen sCap)).run P { w with drawn := k } = .ok old { w with drawn := k })
  (ho : old.size = sLen * sz) :
  ∃ (rest : Array Value) (c : Nat) (w' : World), (Builtin.append_ ts ty #[.slice base sLen sCap, .int k n]).run P w = .ok (.slice (some ⟨w.heap.size, 0, none⟩) (sLen + n) c) w' ∧
   iG (.cells (old ++ Builtin.zeroCells zv.cells n ++ rest) e) w w' ∧ sLen + n ≤ c ∧ (old ++ Builtin.zeroCells zv.cells n ++ rest).size = c * sz ∧ dG rest := by
 simp only [fits, cg, Bool.and_eq_true, decide_eq_true_eq] at hf;obtain ⟨hf1, hf2⟩ := hf;have hf2' : (sLen + n) * bs ≤ 140737488355328 := hf2;have yU : ∀ w, (typeInfo e).run P w = .ok ((cx.kO.get e).getD default) w ∧ ((cx.kO.get e).getD default).bytes = bs := by
  intro w;unfold bytesOf at hb
  cases hi : cx.kO.get e with
  | none => simp [hi] at hb
  | some i => simp only [hi, Option.some.injEq] at hb; exact ⟨nq av hi w, hb⟩
 let q : Question := .appendCap (sLen + n) sCap e
 let c := q.cut (w.tape w.drawn q)
 have hc : c = sLen + n + w.tape w.drawn q % (2 ^ 63 - (sLen + n)) := rfl;have m9 : sLen + n ≤ c := by rw [hc]; exact Nat.le_add_right _ _
 have hi64 : IntKind.i64.max = 9223372036854775807 := rfl;have xw : ¬ (((sLen + n : Nat) : Int) > IntKind.i64.max ∧ (True ∨ ((cx.kO.get e).getD default).bytes = 0)) := by
  rintro ⟨h1, _⟩
  rw [hi64] at h1;omega
 have e48 : (2 : Nat) ^ 48 = 281474976710656 := by decide
 have e48i : (2 : Int) ^ 48 = 281474976710656 := by decide
 have re : ¬ (Builtin.nextslicecap (sLen + n) sCap * ((cx.kO.get e).getD default).bytes > 2 ^ 48) := by
  rw [(yU w).2];have := growslice_fits (old := sCap) (bytes := bs) (by omega : sCap < sLen + n) hf2'
  rw [e48]; omega
 have hw : IntKind.i64.wrap (n : Int) = n := IntWalk.i64_in _ (by omega)
 have hnb : n * bs ≤ 140737488355328 := Nat.le_trans (Nat.mul_le_mul_right _ (Nat.le_add_left _ _)) hf2';have hnbi : ¬ ((n : Int) * ((((cx.kO.get e).getD default).bytes : Nat) : Int) > 2 ^ 48) := by
  rw [(yU w).2, e48i, ← Int.natCast_mul]; omega
 have hneg : ¬ ((n : Int) < 0) := by omega
 have hnz : ¬ (n * sz = 0) := Nat.mul_ne_zero (by omega) (by omega)
 refine ⟨Builtin.zeroCells zv.cells (c - (sLen + n)), c, { w with drawn := w.drawn + 1, heap := w.heap.push (.cells (old ++ Builtin.zeroCells zv.cells n ++ Builtin.zeroCells zv.cells (c - (sLen + n))) e) }, ?_, iG.drawn _, m9, ?_, ones_zc hzo _⟩
 ·have hd0 : ∀ w, (underlying u).run P w = .ok (.int ku) w := fun w => au av lG w
  have hch : (choose (.appendCap (sLen + n) sCap e)).run P w = .ok c { w with drawn := w.drawn + 1 } := by
   rw [run_choose]; rfl
  have h1 := hold (w.drawn + 1);have hi1 : ∀ w, (typeInfo e).run P w = .ok ((cx.kO.get e).getD default) w := fun w => (yU w).1
  unfold Builtin.append_;simp only [DO, Au, List.getElem?_toArray, List.getElem?_cons_zero, List.getElem?_cons_succ, Sem.run_bind, au av hu, dv av hs, Result.andThen_ok, hd0, Sem.run_pure];simp only [if_true, asInt, asIntOf, Sem.run_bind, Sem.run_pure, Result.andThen_ok, hw, if_neg hneg, hi1, if_neg hnbi, Int.toNat_natCast, if_neg hgt];rw [if_neg xw];simp only [Sem.run_bind, hi1, Result.andThen_ok];rw [if_neg re];simp only [Sem.run_bind, hi1, Result.andThen_ok, hch, run_askRoom, h1, Bool.not_true, Bool.false_eq_true, if_false, if_neg hnz, zr, Sem.run_pure, Go.newRow, run_newObj]
 ·simp only [Array.size_append, uu, hzs, ho]
  rw [← Nat.add_mul, ← Nat.add_mul]
  congr 1
  omega
theorem appZ_run {P : Program} {cx : Cx} (av : cX Λ P cx) {ρ : aF} {S S' : AS} {w : World} (hR : R Λ ρ S w) {ts : Array TypeId} {t u ty e : TypeId} {s x v : AV} {s' x' : Value} {ku : IntKind}
  (h : ta cx S e s x = some (v, S')) (DO : ts[0]? = some t) (Au : ts[1]? = some u) (hu : aZ cx t = some (.slice e)) (lG : aZ cx u = some (.int ku))
  (hsr : ah ρ s s') (hxr : ah ρ x x') : oh Λ P ρ S w (Builtin.append_ ts ty #[s', x']) v S' := by
 unfold ta at h
 split at h
 ·rename_i z bs zv id g off len lim sz c k n hs hb hz
  split at h
  ·rename_i zero l old Aq pD
   simp only [aK, fI, aU, Nat.add_eq] at h
   cases hc : (decide (zero.length = Nat.succ z) && decide (c < len + n) && fits (len + n) bs) with
   | false => rw [hc] at h; cases h
   | true =>
    rw [hc, cond_true] at h;simp only [Bool.and_eq_true, decide_eq_true_eq] at hc;obtain ⟨⟨hzl, aL⟩, vR⟩ := hc;obtain ⟨zv', zr, kS⟩ := fT av hz;have hzc' := db Aq (kS ρ);have hzs : zv'.cells.size = z + 1 := by have := hzc'.length; simp at this; omega
    obtain ⟨_, hnl, _⟩ := kV (P := P) hR pD hsr;obtain ⟨oX, o1, o2, o3⟩ := rK (P := P) hR pD hsr;have hll : l = len ∧ ∃ ad c', s' = .slice ad len c' ∧ len ≤ c' ∧ c' = c := by
     have CC := hsr;simp only [ah] at CC;obtain ⟨pl, c', p1, p2, p3, p4, p5, hh⟩ := CC
     constructor
     ·unfold taken at pD
      simp only [aK] at pD
      by_cases sw : sz = Nat.succ z
      ·rw [decide_eq_true sw, cond_true] at pD
       cases len with
       | zero => simp only [Option.some.injEq, Prod.mk.injEq] at pD; exact pD.1.symm
       | succ m =>
        simp only at pD
        split at pD
        ·simp only [Option.some.injEq, Prod.mk.injEq] at pD; exact pD.1.symm
        ·cases pD
      ·rw [decide_eq_false sw] at pD; cases pD
     ·rcases hh with ⟨e1, _, e3⟩ | ⟨e1, e2, e3, a, e4⟩
      ·exact ⟨_, c', e1, p5, (e3 c rfl).1⟩
      ·refine ⟨some a, 0, ?_, by omega, (e3 c rfl).symm⟩
       rw [e4, e1]
    obtain ⟨rfl, ad, c', rfl, hlc, rfl⟩ := hll;simp only [ah] at hxr;subst hxr;obtain ⟨rest, cc, w', r1, r2, r3, r4, r6⟩ := growZ_run (P := P) av (ts := ts) (ty := ty) (k := k) (sLen := l) (sCap := c') (base := ad) (n := n) (old := oX) DO Au hu lG hs (Nat.succ_pos _) hb zr hzs hzc'.2 (by omega) (by omega) vR o1 o3
    have hzcell : Cells ρ (fG n zero) (Builtin.zeroCells zv'.cells n).toList := by
     unfold Builtin.zeroCells;rw [qB zv'.cells n _ rfl]; exact nw hzc' n
    have hrl : (fG n zero).length = n * (z + 1) := by have := hzcell.length; simp [uu, hzs] at this; omega
    obtain ⟨ρ', q1, q2, q3⟩ := sD hR r2 (cells := dB old (fG n zero)) (need := l + n) (c := cc) (sz := z + 1) (by
     have hlen : (dB old (fG n zero)).length = (oX ++ Builtin.zeroCells zv'.cells n).size := by
      rw [bd, List.length_append, hrl, hnl, Array.size_append, o3, uu, hzs]
     rw [hlen, bd];have e : (oX ++ Builtin.zeroCells zv'.cells n ++ rest).toList.take (oX ++ Builtin.zeroCells zv'.cells n).size = oX.toList ++ (Builtin.zeroCells zv'.cells n).toList := by
      simp only [Array.toList_append];rw [List.take_append_of_le_length (by simp), List.take_of_length_le (by simp)]
     rw [e];exact o2.append hzcell) (by rw [bd, List.length_append, hrl, hnl]; exact (Nat.add_mul _ _ _).symm) r4 r3 (Nat.succ_pos _) (((dG.of o2.2).append (dG.of hzcell.2)).append r6)
    rw [Option.some.injEq] at h;rw [h] at q1 q2 q3;exact ⟨_, ρ', w', r1, q1, q2, q3⟩
  ·cases h
 ·cases h
end Go.Am
