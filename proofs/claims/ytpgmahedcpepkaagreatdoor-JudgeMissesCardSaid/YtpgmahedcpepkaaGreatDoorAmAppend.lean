/-
  The abstract machine against the model: append and copy.
  The abstract machine against the model: the operations that lay one block.
-/
import Derived.Test.YtpgmahedcpepkaaGreatDoorAmSlice
import Derived.Laws.Append
namespace Go.Am
open Go
variable {Λ : LB}

/-- What a reckoned value comes to. -/
def SemOk (Λ : LB) (P : Program) (ρ : Rho) (S : AS) (w : World) (s : Sem Value) (v : AV) (S' : AS) : Prop :=
  ∃ x ρ' w', s.run P w = .ok x w' ∧ VRel ρ' v x ∧ R Λ ρ' S' w' ∧ Kp ρ S w ρ' S' w'

theorem rd_len {S : AS} {id g off n lim : Nat} {cs : List AV} (h : rd S id g off n lim = some cs) : ∃ cells low top frz ty, S.h.get id = some (.row cells low top frz ty) := by
  unfold rd at h
  cases hg : S.h.get id with
  | none => simp [hg] at h
  | some o => cases o with
    | row cells low top frz ty => exact ⟨_, _, _, _, _, rfl⟩
    | map es c => simp [hg] at h
    | oth x => simp [hg] at h

theorem taken_run {P : Program} {ρ : Rho} {S : AS} {w : World} (hR : R Λ ρ S w) {sz n : Nat} {x : AV} {x' : Value} {new : List AV} (h : taken S sz x = some (n, new)) (hx : VRel ρ x x') :
    (Builtin.lenOf x').run P w = .ok n w ∧ new.length = n * sz ∧ ∀ m, m ≤ n → ∃ arr : Array Value, (Builtin.firstCells sz m x').run P w = .ok arr w ∧ Cells ρ (new.take (m * sz)) arr.toList := by
  unfold taken at h
  cases x <;> simp only [reduceCtorEq] at h
  case str s =>
    simp only [nbeq] at h
    by_cases hz : sz = 1
    · subst hz
      rw [decide_eq_true rfl] at h
      simp only [cond_true, Option.some.injEq, Prod.mk.injEq] at h
      obtain ⟨rfl, rfl⟩ := h
      simp only [VRel] at hx
      obtain ⟨b, rfl, hb⟩ := hx
      refine ⟨by simp [Builtin.lenOf, size_str hb], by simp [mapL_eq], fun m hm => ⟨((b.extract 0 m).data.map fun c => Value.int .u8 c.toNat), by simp [Builtin.firstCells], ?_, ?_⟩⟩
      · rw [mapL_eq, ← hb, List.map_map, Array.toList_map, ByteArray.data_extract, Array.toList_extract, List.extract_eq_take_drop]
        simp only [List.drop_zero, Nat.sub_zero, Nat.mul_one, ← List.map_take]
        exact LRel.map (ρ := ρ) _ _ (fun c => by simp only [Function.comp, VRel]; rfl) _
      · intro v hv
        rw [Array.toList_map] at hv
        obtain ⟨c, _, rfl⟩ := List.mem_map.1 hv
        rfl
    · rw [decide_eq_false hz] at h; cases h
  case nils =>
    simp only [Option.some.injEq, Prod.mk.injEq] at h
    obtain ⟨rfl, rfl⟩ := h
    simp only [VRel] at hx
    subst hx
    exact ⟨rfl, by simp, fun m hm => ⟨#[], rfl, by simp; exact ⟨LRel.nil, fun x hx => by cases hx⟩⟩⟩
  case slice id g off len lim z cap =>
    simp only [nbeq] at h
    by_cases hz : z = sz
    · subst hz
      rw [decide_eq_true rfl] at h
      simp only [cond_true] at h
      have hx0 := hx
      obtain ⟨ad, c, rfl, _, _⟩ := slice_val hx
      simp only [VRel] at hx
      obtain ⟨pl, c', p1, p2, p3, p4, p5, hh⟩ := hx
      cases len with
      | zero =>
        simp only [Option.some.injEq, Prod.mk.injEq] at h
        obtain ⟨rfl, rfl⟩ := h
        refine ⟨rfl, by simp, fun m hm => ?_⟩
        obtain rfl : m = 0 := by omega
        exact ⟨#[], by simp [Builtin.firstCells, loadCells, loadCellsFrom], by simp; exact ⟨LRel.nil, fun x hx => by cases hx⟩⟩
      | succ len =>
        simp only [Nat.mul_eq] at h
        cases hr : rd S id g off ((len + 1) * z) lim with
        | none => simp [hr] at h
        | some l =>
          simp only [hr, Option.some.injEq, Prod.mk.injEq] at h
          obtain ⟨rfl, rfl⟩ := h
          have hl : l.length = (len + 1) * z := by
            obtain ⟨_, _, _, _, _, h5, _⟩ := load_row (P := P) hR hr p1 p2
            exact h5
          refine ⟨rfl, hl, fun m hm => ?_⟩
          have hmz : m * z ≤ (len + 1) * z := Nat.mul_le_mul_right _ hm
          have hr' : rd S id g off (m * z) lim = some (l.take (m * z)) := by
            unfold rd at hr ⊢
            cases hg : S.h.get id with
            | none => simp [hg] at hr
            | some o =>
              cases o with
              | map es c => simp [hg] at hr
              | oth x => simp [hg] at hr
              | row cells low top frz ty =>
                simp only [hg, nble, takeN_eq, dropN_eq, Nat.add_eq] at hr ⊢
                cases hc : (decide (low ≤ g) && decide (g ≤ top) && decide (off + (len + 1) * z ≤ lim)) with
                | false => simp only [hc, cond_false, reduceCtorEq] at hr
                | true =>
                  simp only [hc, cond_true, Option.some.injEq] at hr
                  simp only [Bool.and_eq_true, decide_eq_true_eq] at hc
                  have h3 : off + (len + 1) * z ≤ lim := hc.2
                  rw [decide_eq_true hc.1.1, decide_eq_true hc.1.2, decide_eq_true (by omega : off + m * z ≤ lim)]
                  simp only [Bool.and_true, cond_true, Option.some.injEq]
                  rw [← hr, List.take_take]
                  congr 1
                  show m * z = min (m * z) ((len + 1) * z)
                  omega
          obtain ⟨arr, q1, q2, q3, q4, q5, _⟩ := load_row (P := P) hR hr' p1 p2
          rcases hh with ⟨e, _⟩ | ⟨e1, _⟩
          · cases e
            exact ⟨arr, by simp [Builtin.firstCells, q1], q3, q4⟩
          · omega
    · rw [decide_eq_false hz] at h; cases h

theorem Grew.drawn {o : Obj} {w : World} (k : Nat) : Grew o w { w with drawn := k, heap := w.heap.push o } := ⟨⟨rfl, rfl, rfl⟩, rfl⟩

theorem size_zc (z : Array Value) (n : Nat) : (Builtin.zeroCells z n).size = n * z.size := by simp [Builtin.zeroCells]

theorem not_int {du : TypeDesc} (h : ∀ k, du ≠ .int k) : (match du with | .int _ => true | _ => false) = false := by
  cases du <;> first | rfl | exact absurd rfl (h _)
theorem ones_zc {z : Array Value} (h : ∀ v, v ∈ z.toList → v.oneCell' = true) (n : Nat) : OnesC (Builtin.zeroCells z n) := by
  intro i v hv
  unfold Builtin.zeroCells at hv
  simp only [Array.getElem?_map, Option.map_eq_some_iff] at hv
  obtain ⟨j, _, rfl⟩ := hv
  rcases Nat.lt_or_ge (j % z.size) z.size with hj | hj
  · rw [getElem!_pos z _ hj]
    exact h _ (by simp)
  · rw [getElem!_neg z _ (by omega)]
    rfl
theorem OnesC.append {a b : Array Value} (h : OnesC a) (k : OnesC b) : OnesC (a ++ b) := by
  intro i v hv
  rw [Array.getElem?_append] at hv
  split at hv
  · exact h i v hv
  · exact k _ v hv
/-- The growing append: what it lays. -/
theorem grow_run {P : Program} {cx : Cx} (hcx : CxOk Λ P cx) {ts : Array TypeId} {t u ty e : TypeId} {sz bs sLen sCap n : Nat} {base : Option Addr} {x' : Value} {old new : Array Value} {du : TypeDesc} {w : World}
    (hts : ts[0]? = some t) (hts1 : ts[1]? = some u) (hu : und cx t = some (.slice e)) (hu1 : und cx u = some du) (hnu : ∀ k, du ≠ .int k) (hs : szOf cx e = some sz) (hb : bytesOf cx e = some bs) (hz : zeroOk cx e sz = true)
    (hlen : (Builtin.lenOf x').run P w = .ok n w) (hgt : ¬ sLen + n ≤ sCap) (hf : fits (sLen + n) bs = true)
    (hold : ∀ k, (Builtin.firstCells sz sLen (.slice base sLen sCap)).run P { w with drawn := k } = .ok old { w with drawn := k })
    (hnew : ∀ k, (Builtin.firstCells sz n x').run P { w with drawn := k } = .ok new { w with drawn := k })
    (ho : old.size = sLen * sz) (hn : new.size = n * sz) :
    ∃ (rest : Array Value) (c : Nat) (w' : World), (Builtin.append_ ts ty #[.slice base sLen sCap, x']).run P w = .ok (.slice (some ⟨w.heap.size, 0, none⟩) (sLen + n) c) w' ∧
      Grew (.cells (old ++ new ++ rest) e) w w' ∧ sLen + n ≤ c ∧ (old ++ new ++ rest).size = c * sz ∧ OnesC rest := by
  simp only [fits, nble, Bool.and_eq_true, decide_eq_true_eq] at hf
  obtain ⟨hf1, hf2⟩ := hf
  have hf2' : (sLen + n) * bs ≤ 140737488355328 := hf2
  unfold zeroOk at hz
  cases hzz : zeroOf cx e with
  | none => simp [hzz] at hz
  | some z =>
    simp only [hzz] at hz
    cases hzc : cellsOf z with
    | none => simp [hzc] at hz
    | some zl =>
      simp only [hzc, nbeq, lenL_eq, decide_eq_true_eq] at hz
      obtain ⟨zv, zr, zrel⟩ := zero_run hcx hzz
      have hzcl := (cellsOf_rel hzc (zrel (fun _ _ => none))).length
      have hzs : zv.cells.size = sz := by simpa using hzcl.symm.trans hz
      have hinfo : ∀ w, (typeInfo e).run P w = .ok ((cx.tys.get e).getD default) w ∧ ((cx.tys.get e).getD default).bytes = bs := by
        intro w
        unfold bytesOf at hb
        cases hi : cx.tys.get e with
        | none => simp [hi] at hb
        | some i => simp only [hi, Option.some.injEq] at hb; exact ⟨run_info hcx hi w, hb⟩
      let q : Question := .appendCap (sLen + n) sCap e
      let c := q.cut (w.tape w.drawn q)
      have hc : c = sLen + n + w.tape w.drawn q % (2 ^ 63 - (sLen + n)) := rfl
      have hge : sLen + n ≤ c := by rw [hc]; exact Nat.le_add_right _ _
      have hmax : ¬ (((sLen + n : Nat) : Int) > IntKind.i64.max ∧ (False ∨ ((cx.tys.get e).getD default).bytes = 0)) := by
        rintro ⟨h1, _⟩
        have : IntKind.i64.max = 9223372036854775807 := rfl
        rw [this] at h1
        omega
      have hcap : ¬ (Builtin.nextslicecap (sLen + n) sCap * ((cx.tys.get e).getD default).bytes > 2 ^ 48) := by
        rw [(hinfo w).2]
        have := growslice_fits (old := sCap) (bytes := bs) (by omega : sCap < sLen + n) hf2'
        have e48 : (2 : Nat) ^ 48 = 281474976710656 := by decide
        rw [e48]; omega
      refine ⟨Builtin.zeroCells zv.cells (c - (sLen + n)), c, { w with drawn := w.drawn + 1, heap := w.heap.push (.cells (old ++ new ++ Builtin.zeroCells zv.cells (c - (sLen + n))) e) }, ?_, Grew.drawn _, hge, ?_, ones_zc (cellsOf_rel hzc (zrel (fun _ _ => none))).2 _⟩
      · have hd0 : ∀ w, (underlying u).run P w = .ok du w := fun w => run_und hcx hu1 w
        have hch : (choose (.appendCap (sLen + n) sCap e)).run P w = .ok c { w with drawn := w.drawn + 1 } := by
          rw [run_choose]; rfl
        have h1 := hold (w.drawn + 1)
        have h2 := hnew (w.drawn + 1)
        have hi1 : ∀ w, (typeInfo e).run P w = .ok ((cx.tys.get e).getD default) w := fun w => (hinfo w).1
        have hmt := not_int hnu
        unfold Builtin.append_
        simp only [hts, hts1, List.getElem?_toArray, List.getElem?_cons_zero, List.getElem?_cons_succ, Sem.run_bind, run_und hcx hu, run_sz hcx hs, Result.andThen_ok, hd0, Sem.run_pure]
        simp only [Bool.false_eq_true, if_false, hlen, Sem.run_bind, Result.andThen_ok, if_neg hgt, hi1]
        rw [if_neg hmax]
        simp only [Sem.run_bind, hi1, Result.andThen_ok]
        rw [if_neg hcap]
        simp only [Sem.run_bind, hi1, Result.andThen_ok, hch, run_askRoom, h1, h2, Bool.not_false, if_true, zr, Sem.run_pure, Go.newRow, run_newObj]
      · simp only [Array.size_append, size_zc, hzs, ho, hn]
        rw [← Nat.add_mul, ← Nat.add_mul]
        congr 1
        omega

theorem Cells.mono {ρ ρ' : Rho} (h : Ext ρ ρ') {cs : List AV} {l : List Value} (hc : Cells ρ cs l) : Cells ρ' cs l := ⟨hc.1.mono h, hc.2⟩

/-- A row of its own behind a growing append. -/
theorem grown_rel {ρ : Rho} {S : AS} {w w' : World} {e : TypeId} {cells : List AV} {C : Array Value} {need c sz : Nat} (hR : R Λ ρ S w) (hg : Grew (.cells C e) w w')
    (hl : Cells ρ cells (C.toList.take cells.length)) (hlen : cells.length = need * sz) (hC : C.size = c * sz) (hnc : need ≤ c) (hsz : 0 < sz) (hone : OnesC C) :
    ∃ ρ', VRel ρ' (grown S e need sz cells).1 (.slice (some ⟨w.heap.size, 0, none⟩) need c) ∧ R Λ ρ' (grown S e need sz cells).2 w' ∧ Kp ρ S w ρ' (grown S e need sz cells).2 w' := by
  have hle : need * sz ≤ c * sz := Nat.mul_le_mul_right _ hnc
  obtain ⟨ρ', pl, p1, p2, p3, p4, p5, p6, p7⟩ := hR.newRow hg hl.1 (by omega) hone
  refine ⟨ρ', ?_, p6, p7⟩
  refine VRel.slice_mk pl c p1 ?_ ?_ hsz hnc (.inl ⟨by rw [p2, p3], by rw [p3, p5, hC]; omega, fun k hk => by cases hk⟩)
  · show need * sz ≤ pl.n
    rw [p4, hlen]; exact Nat.le_refl _
  · show 0 + need * sz ≤ need * sz
    omega

/-- A new generation's cells lie where they should. -/
theorem newGen_rel {ρ ρ' : Rho} {w' : World} {id top z len k : Nat} {old new : List AV} {pl' : Pl} {C' : Array Value} {e : TypeId} {fr : Nat × Nat} (hp : ρ' id top = some pl') (hx : Ext ρ ρ')
    (hw : w'.heap[pl'.b]? = some (.cells C' e fr)) (hN : C'.size = pl'.N) (hn : pl'.n = (len + k) * z) (hol : old.length = len * z) (hnl : new.length = k * z)
    (hfz : ∀ i, i ≤ pl'.N → froz fr i = false)
    (ho : ∀ i, i < len * z → ∃ x v, old[i]? = some x ∧ C'[pl'.base + i]? = some v ∧ VRel ρ x v ∧ v.oneCell' = true)
    (hw2 : ∀ i, i < k * z → ∃ x v, new[i]? = some x ∧ C'[pl'.base + (len * z + i)]? = some v ∧ VRel ρ x v ∧ v.oneCell' = true)
    (h0 : top ≠ 0) (hone : OnesC C') : GRel ρ' w' (old ++ new) top false e id top := by
  have hlen : (old ++ new).length = (len + k) * z := by rw [List.length_append, hol, hnl, Nat.add_mul]
  refine ⟨pl', C', fr, hp, hw, hN, pl'.le, by rw [hn, hlen]; exact Nat.le_refl _, fun i hi => ?_, fun _ => by rw [hn, hlen], fun _ => hfz, fun e0 => absurd e0 h0, fun _ => hone⟩
  rw [hn, Nat.add_mul] at hi
  by_cases h : i < len * z
  · obtain ⟨x, v, a1, a2, a3, a4⟩ := ho i h
    exact ⟨x, v, by rw [List.getElem?_append_left (by omega)]; exact a1, a2, a3.mono hx _ _, a4⟩
  · obtain ⟨x, v, a1, a2, a3, a4⟩ := hw2 (i - len * z) (by omega)
    refine ⟨x, v, by rw [List.getElem?_append_right (by omega), hol]; exact a1, ?_, a3.mono hx _ _, a4⟩
    have : len * z + (i - len * z) = i := by omega
    rw [this] at a2; exact a2

theorem drawn_self (w : World) : { w with drawn := w.drawn } = w := rfl
/-- What an append takes, in whatever count of draws. -/
theorem taken_all {P : Program} {ρ : Rho} {S : AS} {w : World} (hR : R Λ ρ S w) {sz n : Nat} {x : AV} {x' : Value} {new : List AV} (h : taken S sz x = some (n, new)) (hx : VRel ρ x x') :
    ∃ arr : Array Value, (∀ k, (Builtin.firstCells sz n x').run P { w with drawn := k } = .ok arr { w with drawn := k }) ∧ Cells ρ new arr.toList ∧ arr.size = n * sz := by
  obtain ⟨_, hl, h0⟩ := taken_run (P := P) hR h hx
  obtain ⟨arr, r1, r2⟩ := h0 n (Nat.le_refl _)
  have e : new.take (n * sz) = new := List.take_of_length_le (by omega)
  rw [e] at r2
  refine ⟨arr, fun k => ?_, r2, by have := r2.length; simp at this; omega⟩
  obtain ⟨_, _, h1⟩ := taken_run (P := P) (hR.drawn k) h hx
  obtain ⟨arr', q1, q2⟩ := h1 n (Nat.le_refl _)
  have : arr' = arr := by
    have key : ∀ (y : Value) (w : World) (k : Nat) (a b : Array Value), (Builtin.firstCells sz n y).run P w = .ok a w → (Builtin.firstCells sz n y).run P { w with drawn := k } = .ok b { w with drawn := k } → b = a := by
      intro y w k a b ha hb
      cases y <;> simp only [Builtin.firstCells] at ha hb <;> (try (cases ha; done))
      case string s => cases ha; cases hb; rfl
      case slice ad l c =>
        cases ad with
        | none => cases ha; cases hb; rfl
        | some ad =>
          simp only at ha hb
          have : ∀ (m i : Nat) (acc : Array Value) (a b : Array Value), (loadCellsFrom ad i m acc).run P w = .ok a w → (loadCellsFrom ad i m acc).run P { w with drawn := k } = .ok b { w with drawn := k } → b = a := by
            intro m
            induction m with
            | zero => intro i acc a b ha hb; cases ha; cases hb; rfl
            | succ m ih =>
              intro i acc a b ha hb
              simp only [loadCellsFrom, Sem.run_bind, run_load] at ha hb
              have hc : ({ w with drawn := k } : World).cell? (ad.add i) = w.cell? (ad.add i) := rfl
              rw [hc] at hb
              cases hcell : w.cell? (ad.add i) with
              | some u => rw [hcell] at ha hb; exact ih _ _ _ _ ha hb
              | none =>
                rw [hcell] at ha hb
                have hfar : ({ w with drawn := k } : World).farLoad P (ad.add i) false = w.farLoad P (ad.add i) false := by
                  simp only [World.farLoad, World.viewLoad, World.seen, World.noCell]
                have hm : ((Mode.plain == Mode.atomic) : Bool) = false := rfl
                rw [hm] at ha hb
                rw [hfar] at hb
                cases hfl : w.farLoad P (ad.add i) false with
                | ok r => rw [hfl] at ha hb; exact ih _ _ _ _ ha hb
                | error e => rw [hfl] at ha; cases ha
          exact this _ 0 #[] a b ha hb
    exact key x' w k arr arr' r1 q1
  rw [this] at q1
  exact q1

theorem appendV_run {P : Program} {cx : Cx} (hcx : CxOk Λ P cx) {ρ : Rho} {S S' : AS} {w : World} (hR : R Λ ρ S w) {ts : Array TypeId} {t u ty e : TypeId} {sz bs : Nat} {s x v : AV} {s' x' : Value} {du : TypeDesc}
    (h : appendV S e sz bs s x = some (v, S')) (hts : ts[0]? = some t) (hts1 : ts[1]? = some u) (hu : und cx t = some (.slice e)) (hu1 : und cx u = some du) (hnu : ∀ k, du ≠ .int k)
    (hs : szOf cx e = some sz) (hsz : 0 < sz) (hb : bytesOf cx e = some bs) (hz : zeroOk cx e sz = true) (hsr : VRel ρ s s') (hxr : VRel ρ x x') :
    SemOk Λ P ρ S w (Builtin.append_ ts ty #[s', x']) v S' := by
  unfold appendV at h
  cases ht : taken S sz x with
  | none => simp [ht] at h
  | some nn =>
    obtain ⟨n, new⟩ := nn
    simp only [ht] at h
    obtain ⟨hlen, hnl, hfc⟩ := taken_run (P := P) hR ht hxr
    have hd0 : ∀ w, (underlying u).run P w = .ok du w := fun w => run_und hcx hu1 w
    have hmt := not_int hnu
    -- within the room
    have inplace : ∀ (base : Option Addr) (sLen sCap : Nat) (w' : World) (arr : Array Value), sLen + n ≤ sCap → (Builtin.firstCells sz n x').run P w = .ok arr w →
        (match base with | some a => (storeCells (a.add (sLen * sz)) arr.toList).run P w = .ok () w' | none => w' = w) →
        (Builtin.append_ ts ty #[.slice base sLen sCap, x']).run P w = .ok (.slice base (sLen + n) sCap) w' := by
      intro base sLen sCap w' arr hle hf hst
      unfold Builtin.append_
      simp only [hts, hts1, List.getElem?_toArray, List.getElem?_cons_zero, List.getElem?_cons_succ, Sem.run_bind, run_und hcx hu, run_sz hcx hs, Result.andThen_ok, hd0, Sem.run_pure]
      simp only [Bool.false_eq_true, if_false, hlen, Sem.run_bind, Result.andThen_ok, if_pos hle, Bool.not_false, if_true, hf]
      cases base with
      | none => simp only [] at hst; subst hst; rfl
      | some a => simp only [] at hst; simp only [Sem.run_bind, hst, Result.andThen_ok]; rfl
    obtain ⟨arr, hf, harr, hasz⟩ := taken_all (P := P) hR ht hxr
    have hf0 : (Builtin.firstCells sz n x').run P w = .ok arr w := hf w.drawn
    cases n with
    | zero =>
      have harr0 : arr.toList = [] := by
        have : arr.size = 0 := by omega
        exact List.eq_nil_of_length_eq_zero (by simpa using this)
      cases s <;> simp only [reduceCtorEq] at h
      case nils =>
        cases h
        simp only [VRel] at hsr
        subst hsr
        exact ⟨_, ρ, w, inplace none 0 0 w arr (by omega) hf0 rfl, by simp [VRel], hR, Kp.refl _ _ _⟩
      case slice id g off len lim z cap =>
        simp only [nbeq] at h
        by_cases hzz : z = sz
        · rw [decide_eq_true hzz] at h
          cases h
          obtain ⟨ad, c, rfl, hlc, _⟩ := slice_val hsr
          refine ⟨_, ρ, w, inplace (some ad) len c w arr (by omega) hf0 ?_, hsr, hR, Kp.refl _ _ _⟩
          simp only [harr0]; rfl
        · rw [decide_eq_false hzz] at h; cases h
    | succ m =>
      have hnew : new.length = (m + 1) * sz := hnl
      cases s <;> simp only [reduceCtorEq] at h
      case nils =>
        simp only [VRel] at hsr
        subst hsr
        cases hfit : fits (m + 1) bs with
        | false => simp [hfit] at h
        | true =>
          simp only [hfit, cond_true, Option.some.injEq] at h
          obtain ⟨rest, c, w', r1, r2, r3, r4, r6⟩ := grow_run (P := P) hcx (ts := ts) (ty := ty) (sLen := 0) (sCap := 0) (base := none) (old := #[]) (new := arr) hts hts1 hu hu1 hnu hs hb hz hlen (by omega) (by simpa using hfit)
            (fun k => rfl) hf (by simp) hasz
          simp only [Nat.zero_add] at r1 r3
          obtain ⟨ρ', q1, q2, q3⟩ := grown_rel hR r2 (cells := new) (need := m + 1) (c := c) (sz := sz) (by
            have e : (#[] ++ arr ++ rest).toList.take new.length = arr.toList := by
              have := harr.length
              simp [this]
            rw [e]; exact harr) hnew r4 r3 hsz (((OnesC.of (fun v hv => by cases hv)).append (OnesC.of harr.2)).append r6)
          rw [h] at q1 q2 q3
          exact ⟨_, ρ', w', r1, q1, q2, q3⟩
      case slice id g off len lim z cap =>
        simp only [nbeq] at h
        by_cases hzz : z = sz
        · subst hzz
          rw [decide_eq_true rfl] at h
          simp only [cond_true] at h
          cases hob : S.h.get id with
          | none => simp [hob] at h
          | some ob =>
            cases ob with
            | map es c => simp [hob] at h
            | oth x => simp [hob] at h
            | row cells low top frz rty =>
              simp only [hob, nble, forceN_eq, Nat.add_eq, Nat.mul_eq] at h
              cases hlv : (decide (low ≤ g) && decide (g ≤ top)) with
              | false => simp [hlv] at h
              | true =>
                simp only [hlv, cond_true] at h
                simp only [Bool.and_eq_true, decide_eq_true_eq] at hlv
                cases hfit : fits (len + (m + 1)) bs with
                | false => simp [hfit] at h
                | true =>
                  simp only [hfit, cond_true] at h
                  -- what the slice holds
                  have hsl := slice_len hsr
                  have hold : taken S z (.slice id g off len lim z cap) = some (len, (cells.drop off).take (len * z)) := by
                    unfold taken
                    simp only [nbeq]
                    cases len with
                    | zero => simp
                    | succ l =>
                      have : rd S id g off ((l + 1) * z) lim = some ((cells.drop off).take ((l + 1) * z)) := by
                        unfold rd
                        simp only [hob, nble, takeN_eq, dropN_eq, Nat.add_eq]
                        rw [decide_eq_true hlv.1, decide_eq_true hlv.2, decide_eq_true hsl]; rfl
                      show (match rd S id g off ((l + 1) * z) lim with | some l' => some (l + 1, l') | none => none) = _
                      rw [this]
                  obtain ⟨oarr, ho, hoarr, hosz⟩ := taken_all (P := P) hR hold hsr
                  have hol := hoarr.length
                  have hnl' := harr.length
                  obtain ⟨ad, c, rfl, hlc, hcap⟩ := slice_val hsr
                  have growing : ¬ len + (m + 1) ≤ c → ∃ rest c' w', (Builtin.append_ ts ty #[.slice (some ad) len c, x']).run P w = .ok (.slice (some ⟨w.heap.size, 0, none⟩) (len + (m + 1)) c') w' ∧
                      Grew (.cells (oarr ++ arr ++ rest) e) w w' ∧ len + (m + 1) ≤ c' ∧ (oarr ++ arr ++ rest).size = c' * z ∧
                      Cells ρ ((cells.drop off).take (len * z) ++ new) ((oarr ++ arr ++ rest).toList.take ((cells.drop off).take (len * z) ++ new).length) ∧ OnesC (oarr ++ arr ++ rest) := by
                    intro hgt
                    obtain ⟨rest, c', w', r1, r2, r3, r4, r6⟩ := grow_run (P := P) hcx (ts := ts) (ty := ty) (sLen := len) (sCap := c) (base := some ad) (old := oarr) (new := arr) hts hts1 hu hu1 hnu hs hb hz hlen hgt hfit ho hf hosz hasz
                    refine ⟨rest, c', w', r1, r2, r3, r4, ?_, ((OnesC.of hoarr.2).append (OnesC.of harr.2)).append r6⟩
                    have e : (oarr ++ arr ++ rest).toList.take ((cells.drop off).take (len * z) ++ new).length = oarr.toList ++ arr.toList := by
                      rw [List.length_append, hol, hnl']
                      simp only [Array.toList_append]
                      rw [List.take_append_of_le_length (by simp), List.take_of_length_le (by simp)]
                    rw [e]
                    exact hoarr.append harr
                  have olen : ((cells.drop off).take (len * z)).length = len * z := by rw [hol]; simpa using hosz
                  have nlen : ((cells.drop off).take (len * z) ++ new).length = (len + (m + 1)) * z := by
                    rw [List.length_append, olen, hnew, ← Nat.add_mul]
                  cases cap with
                  | some k =>
                    obtain rfl := hcap k rfl
                    simp only [] at h
                    by_cases hle : len + (m + 1) ≤ c
                    · rw [decide_eq_true hle] at h
                      simp only [cond_true] at h
                      cases hwr : wr S id g (off + len * z) lim new with
                      | none => simp [hwr] at h
                      | some S1 =>
                        simp only [hwr, Option.some.injEq, Prod.mk.injEq] at h
                        obtain ⟨rfl, rfl⟩ := h
                        have hsr' := hsr
                        simp only [VRel] at hsr'
                        obtain ⟨pl, c', p1, p2, p3, p4, p5, hh⟩ := hsr'
                        rcases hh with ⟨he, q1, q2⟩ | ⟨e1, e2, e3, a', he⟩
                        · cases he
                          obtain ⟨w', r1, r2, r3⟩ := store_row (P := P) hR hwr p1 p2 harr.1 harr.2
                          have hroom := (q2 c rfl).2
                          refine ⟨_, ρ, w', inplace _ len c w' arr hle hf0 ?_, ?_, r2, r3⟩
                          · simp only []
                            rw [Addr_add, Nat.add_assoc]; exact r1
                          · have hm : (len + (m + 1)) * z ≤ c * z := Nat.mul_le_mul_right _ hle
                            exact VRel.slice_mk pl c p1 p2 (by omega) p4 hle (.inl ⟨rfl, q1, q2⟩)
                        · cases he; omega
                    · rw [decide_eq_false hle] at h
                      simp only [cond_false, Option.some.injEq, takeN_eq, dropN_eq, appL_eq] at h
                      obtain ⟨rest, c', w', r1, r2, r3, r4, r5, r6⟩ := growing hle
                      obtain ⟨ρ', q1, q2, q3⟩ := grown_rel hR r2 (need := len + (m + 1)) r5 nlen r4 r3 hsz r6
                      rw [h] at q1 q2 q3
                      exact ⟨_, ρ', w', r1, q1, q2, q3⟩
                  | none =>
                    simp only [] at h
                    cases hfe : (frz || !decide (rty = e)) with
                    | true => rw [hfe] at h; cases h
                    | false =>
                      rw [hfe] at h
                      obtain ⟨hfe1, hfe2⟩ : frz = false ∧ rty = e := by simpa using hfe
                      subst hfe1 hfe2
                      simp only [cond_false, takeN_eq, dropN_eq, appL_eq, lenL_eq] at h
                      have hRo := hR.objs id _ hob
                      obtain ⟨hlt, hgs, hsb⟩ := hRo
                      have hsr' := hsr
                      simp only [VRel] at hsr'
                      obtain ⟨pl, c', p1, p2, p3, p4, p5, hh⟩ := hsr'
                      obtain ⟨plg, C, fr, g1, g2, g3, g4, g5, g6, g7, g8, _, g10⟩ := hgs g hlv.1 hlv.2
                      rw [p1] at g1; cases g1
                      have hC1 : ∀ (C' : Array Value) {o z0 : Nat}, (∀ j, C'[j]? = if o + z0 ≤ j ∧ j < o + z0 + arr.toList.length then arr.toList[j - (o + z0)]? else C[j]?) → OnesC C' := by
                        intro C' o z0 hj i v hv
                        rw [hj i] at hv
                        split at hv
                        · exact harr.2 v (List.mem_of_getElem? hv)
                        · exact g10 rfl i v hv
                      -- the new generation, wherever it lies
                      have key : ∃ (pl' : Pl) (w' : World) (cc : Nat), (Builtin.append_ ts ty #[.slice (some ad) len c, x']).run P w = .ok (.slice (some ⟨pl'.b, pl'.base, none⟩) (len + (m + 1)) cc) w' ∧
                          Outer w w' ∧ w.heap.size ≤ w'.heap.size ∧ (∀ k, k < w.heap.size → k ≠ pl'.b → w'.heap[k]? = w.heap[k]?) ∧ pl'.b < w'.heap.size ∧ pl'.n = (len + (m + 1)) * z ∧ len + (m + 1) ≤ cc ∧ pl'.base + cc * z ≤ pl'.N ∧
                          ((pl'.b = pl.b ∧ pl'.base = pl.base + off ∧ ∃ C' , w'.heap[pl.b]? = some (.cells C' rty fr) ∧ C'.size = C.size ∧ OnesC C' ∧ ∀ j, j < pl.base + off + len * z → C'[j]? = C[j]?) ∨ (w.heap.size = pl'.b)) ∧
                          GRel (put ρ id (top + 1) pl') w' ((cells.drop off).take (len * z) ++ new) (top + 1) false rty id (top + 1) := by
                        by_cases hfitc : len + (m + 1) ≤ c
                        · rcases hh with ⟨he, q1, q2⟩ | ⟨e1, e2, e3, a', he⟩
                          · cases he
                            have hcz : (len + (m + 1)) * z ≤ c * z := Nat.mul_le_mul_right _ hfitc
                            have hsplit : (len + (m + 1)) * z = len * z + (m + 1) * z := Nat.add_mul _ _ _
                            obtain ⟨w', C', r1, r2, r3, r4, r5⟩ := run_storeCells_blk (P := P) pl.b rty fr arr.toList (pl.base + off + len * z) 0 C w g2 (by simp only [Array.length_toList, hasz]; omega) harr.2 (by rw [g3]; exact fun i hi => g8 rfl i (Nat.le_of_lt hi))
                            have hle' : pl.base + off + (len + (m + 1)) * z ≤ pl.N := by omega
                            refine ⟨⟨pl.b, pl.base + off, (len + (m + 1)) * z, pl.N, hle'⟩, w', c, ?_, r2.toOuter, Nat.le_of_eq r2.size.symm, fun k _ hk => r2.same k hk, ?_, rfl, hfitc, q1, .inl ⟨rfl, rfl, C', r3, r4, hC1 C' r5, fun j hj => ?_⟩, ?_⟩
                            · refine inplace _ len c w' arr hfitc hf0 ?_
                              simp only []
                              rw [Addr_add]; exact r1
                            · show pl.b < w'.heap.size
                              rw [r2.size]; exact hR.lt id _ g pl hob p1
                            · rw [r5 j, if_neg (by omega)]
                            · refine newGen_rel (ρ := ρ) (put_same _ _ _ _) (put_ext _ (hR.topg id _ _ _ _ _ hob _ (by omega))) r3 (r4.trans g3) rfl olen hnew (g8 rfl) (fun i hi => ?_) (fun i hi => ?_) (by omega) (hC1 C' r5)
                              · obtain ⟨x0, v0, a1, a2, a3, a4⟩ := g6 (off + i) (by omega)
                                refine ⟨x0, v0, by rw [list_at, if_pos hi]; exact a1, ?_, a3, a4⟩
                                show C'[pl.base + off + i]? = _
                                rw [r5, if_neg (by omega), Nat.add_assoc]; exact a2
                              · obtain ⟨x0, hx0⟩ : ∃ x0, new[i]? = some x0 := ⟨new[i]'(by omega), by rw [List.getElem?_eq_getElem (by omega)]⟩
                                obtain ⟨v0, hv0, hrel⟩ := harr.1.get hx0
                                refine ⟨x0, v0, hx0, ?_, hrel, harr.2 v0 (List.mem_of_getElem? hv0)⟩
                                show C'[pl.base + off + (len * z + i)]? = _
                                rw [r5, if_pos (by simp only [Array.length_toList, hasz]; omega)]
                                have : pl.base + off + (len * z + i) - (pl.base + off + len * z + 0) = i := by omega
                                rw [this]; exact hv0
                          · cases he; omega
                        · obtain ⟨rest, cc, w', r1, r2, r3, r4, r5, r6⟩ := growing hfitc
                          have hcz : (len + (m + 1)) * z ≤ cc * z := Nat.mul_le_mul_right _ r3
                          refine ⟨⟨w.heap.size, 0, (len + (m + 1)) * z, cc * z, by omega⟩, w', cc, r1, r2.toOuter, by rw [r2.size]; omega, fun k hk _ => r2.old k hk, by rw [r2.size]; exact Nat.lt_succ_self _, rfl, r3, by show 0 + cc * z ≤ cc * z; omega, .inr rfl, ?_⟩
                          have hpt : ∀ i, i < (len + (m + 1)) * z → ∃ x v, ((cells.drop off).take (len * z) ++ new)[i]? = some x ∧ (oarr ++ arr ++ rest)[i]? = some v ∧ VRel ρ x v ∧ v.oneCell' = true := by
                            intro i hi
                            obtain ⟨x0, hx0⟩ : ∃ x0, ((cells.drop off).take (len * z) ++ new)[i]? = some x0 := ⟨_, List.getElem?_eq_getElem (by omega)⟩
                            obtain ⟨v0, hv0, hrel⟩ := r5.1.get hx0
                            rw [List.getElem?_take, if_pos (by omega)] at hv0
                            refine ⟨x0, v0, hx0, by rw [← Array.getElem?_toList]; exact hv0, hrel, r5.2 v0 ?_⟩
                            exact List.mem_of_getElem? (i := i) (by rw [List.getElem?_take, if_pos (by omega)]; exact hv0)
                          refine newGen_rel (ρ := ρ) (put_same _ _ _ _) (put_ext _ (hR.topg id _ _ _ _ _ hob _ (by omega))) r2.at r4 rfl olen hnew (fun i _ => by simp [froz]) (fun i hi => ?_) (fun i hi => ?_) (by omega) r6
                          · obtain ⟨x0, v0, a1, a2, a3, a4⟩ := hpt i (by rw [Nat.add_mul]; omega)
                            refine ⟨x0, v0, ?_, by show (oarr ++ arr ++ rest)[0 + i]? = _; rw [Nat.zero_add]; exact a2, a3, a4⟩
                            rw [List.getElem?_append_left (by omega)] at a1; exact a1
                          · obtain ⟨x0, v0, a1, a2, a3, a4⟩ := hpt (len * z + i) (by rw [Nat.add_mul]; omega)
                            refine ⟨x0, v0, ?_, by show (oarr ++ arr ++ rest)[0 + (len * z + i)]? = _; rw [Nat.zero_add]; exact a2, a3, a4⟩
                            rw [List.getElem?_append_right (by omega), olen] at a1
                            have : len * z + i - len * z = i := by omega
                            rw [this] at a1; exact a1
                      obtain ⟨pl', w', cc, k1, k2, k3, k4, k5, k6, k7, k8, k9, k10⟩ := key
                      have hpl : (∃ g pl0, ρ id g = some pl0 ∧ pl0.b = pl'.b) ∨ w.heap.size ≤ pl'.b := by
                        rcases k9 with ⟨e1, _⟩ | e1
                        · exact .inl ⟨g, pl, p1, e1.symm⟩
                        · exact .inr (by omega)
                      have hval : ∀ ρ', ρ' id (top + 1) = some pl' → VRel ρ' (.slice id (top + 1) 0 (len + (m + 1)) ((len + (m + 1)) * z) z none) (.slice (some ⟨pl'.b, pl'.base, none⟩) (len + (m + 1)) cc) := by
                        intro ρ' hρ'
                        exact VRel.slice_mk pl' cc hρ' (by rw [k6]; exact Nat.le_refl _) (by omega) p4 k7 (.inl ⟨rfl, by omega, fun k hk => by cases hk⟩)
                      cases hc : (decide (off = 0) && decide (g = top) && decide (cells.length = len * z)) with
                      | true =>
                        simp only [hc, cond_true, Option.some.injEq, Prod.mk.injEq] at h
                        obtain ⟨rfl, rfl⟩ := h
                        simp only [Bool.and_eq_true, decide_eq_true_eq] at hc
                        obtain ⟨⟨rfl, rfl⟩, hcl⟩ := hc
                        have hce : (cells.drop 0).take (len * z) = cells := by rw [List.drop_zero, List.take_of_length_le (by omega)]
                        rw [hce] at k10
                        have hxx := put_ext (ρ := ρ) pl' (hR.topg id _ _ _ _ _ hob _ (Nat.lt_succ_self g))
                        have hold' : ∀ h', low ≤ h' → h' ≤ g → GRel (put ρ id (g + 1) pl') w' (cells ++ new) (g + 1) false rty id h' := by
                          intro h' hl1 hl2
                          obtain ⟨q, D, f1, d1, d2, d3, d4, d5, d6, d7, d8, d9⟩ := hgs h' hl1 hl2
                          have hqlt := hR.lt id _ h' q hob d1
                          have fin : ∀ D' , w'.heap[q.b]? = some (.cells D' rty f1) → D'.size = D.size → (∀ i, i < q.n → D'[q.base + i]? = D[q.base + i]?) → OnesC D' → GRel (put ρ id (g + 1) pl') w' (cells ++ new) (g + 1) false rty id h' := by
                            intro D' hD1 hD2 hD3 hD4
                            refine ⟨q, D', f1, hxx _ _ _ d1, hD1, hD2.trans d3, d4, by simp; omega, fun i hi => ?_, fun he => by omega, d8, d9.1, fun _ => hD4⟩
                            obtain ⟨x0, v0, a1, a2, a3, a4⟩ := d6 i hi
                            exact ⟨x0, v0, by rw [List.getElem?_append_left (by omega)]; exact a1, by rw [hD3 i hi]; exact a2, a3.mono hxx _ _, a4⟩
                          by_cases hqb : q.b = pl'.b
                          · rcases k9 with ⟨e2, _, C', c1, c2, c4, c3⟩ | e2
                            · have hqp : q.b = pl.b := hqb.trans e2
                              have hbase := hsb h' g q pl hl1 hl2 hlv.1 hlv.2 d1 p1 hqp
                              rw [hqp] at d2
                              rw [d2] at g2; cases g2
                              exact fin C' (by rw [hqp]; exact c1) c2 (fun i hi => c3 _ (by omega)) c4
                            · omega
                          · exact fin D (by rw [k4 q.b hqlt hqb]; exact d2) rfl (fun _ _ => rfl) (d9.2 rfl)
                        obtain ⟨q1, q2⟩ := hR.gen hob (pl := pl') (low' := low) (Nat.le_refl _) (by omega) k2 k3 k4 hpl k5 rfl k10 hold' (fun h' q hl1 hl2 hq hqb => by
                          rcases k9 with ⟨e2, e3, _⟩ | e2
                          · have := hsb h' g q pl hl1 hl2 hlv.1 hlv.2 hq p1 (hqb.trans e2); omega
                          · have := hR.lt id _ h' q hob hq; omega)
                        exact ⟨_, _, w', k1, hval _ (put_same _ _ _ _), q1, q2⟩
                      | false =>
                        simp only [hc, cond_false, Option.some.injEq, Prod.mk.injEq] at h
                        obtain ⟨rfl, rfl⟩ := h
                        obtain ⟨q1, q2⟩ := hR.gen hob (pl := pl') (low' := top + 1) (by omega) (Nat.le_refl _) k2 k3 k4 hpl k5 rfl k10 (fun g' h1 h2 => by omega) (fun g' q h1 h2 => by omega)
                        exact ⟨_, _, w', k1, hval _ (put_same _ _ _ _), q1, q2⟩
        · rw [decide_eq_false hzz] at h; cases h
end Go.Am

namespace Go.Am
open Go
variable {Λ : LB}

/-- What an operation's run gives as its slot's value. -/
def nextVal : Next → Option Value
  | .value x => some x
  | .skip => some undef
  | _ => none

/-- The model's object for one of the machine's, freshly laid. -/
def ObjRel (ρ : Rho) : AObj → Obj → Prop
  | .row cells low top frz ty, o => low = 0 ∧ top = 0 ∧ frz = false ∧ ∃ C, o = .cells C ty ∧ cells.length ≤ C.size ∧ Cells ρ cells (C.toList.take cells.length) ∧ OnesC C
  | .map es clock, o => ∃ ES, o = .map ES clock ∧ ERel ρ es ES.toList
  | .oth x, o => OthRel ρ x o
/-- .. and where it lies. -/
def PlRel (b : Nat) (pl : Pl) : AObj → Obj → Prop
  | .row cells _ _ _ _, .cells C _ _ => pl.b = b ∧ pl.base = 0 ∧ pl.n = cells.length ∧ pl.N = C.size
  | .map _ _, .map _ _ => pl.b = b
  | .oth _, _ => pl.b = b ∧ pl.base = 0
  | _, _ => False

def FreshOk (P : Program) (ρ : Rho) (w : World) (s : Sem Value) (id : Nat) (v : AV) (obj : AObj) : Prop :=
  ∃ x o' w', s.run P w = .ok x w' ∧ Grew o' w w' ∧ ObjRel ρ obj o' ∧ ∀ ρ' pl, ρ' id 0 = some pl → PlRel w.heap.size pl obj o' → VRel ρ' v x

theorem ObjRel.mono {ρ ρ' : Rho} (h : Ext ρ ρ') {obj : AObj} {o' : Obj} (r : ObjRel ρ obj o') : ObjRel ρ' obj o' := by
  cases obj with
  | row cells low top frz ty =>
    obtain ⟨a, b, c, C, r1, r2, r3⟩ := r
    exact ⟨a, b, c, C, r1, r2, r3.1.mono h, r3.2⟩
  | map es clock =>
    obtain ⟨ES, r1, r2⟩ := r
    exact ⟨ES, r1, r2.mono h⟩
  | oth x => exact OthRel.mono h r

/-- A block that has been laid becomes the machine's next object. -/
theorem R.fresh' {ρ : Rho} {S : AS} {w w' : World} {obj : AObj} {o' : Obj} (hR : R Λ ρ S w) (hg : Grew o' w w') (ho : ObjRel ρ obj o') :
    ∃ ρ' pl, ρ' S.next 0 = some pl ∧ PlRel w.heap.size pl obj o' ∧ R Λ ρ' ⟨S.h.set S.next obj, S.next + 1⟩ w' ∧ Kp ρ S w ρ' ⟨S.h.set S.next obj, S.next + 1⟩ w' := by
  cases obj with
  | row cells low top frz ty =>
    obtain ⟨rfl, rfl, rfl, C, rfl, r2, r3⟩ := ho
    obtain ⟨ρ', pl, p1, p2, p3, p4, p5, p6, p7⟩ := hR.newRow hg r3.1.1 r2 r3.2
    exact ⟨ρ', pl, p1, ⟨p2, p3, p4, p5⟩, p6, p7⟩
  | map es clock =>
    obtain ⟨ES, rfl, r2⟩ := ho
    obtain ⟨ρ', pl, p1, p2, p6, p7⟩ := hR.newMap hg r2
    exact ⟨ρ', pl, p1, p2, p6, p7⟩
  | oth x =>
    obtain ⟨ρ', pl, p1, p2, p3, p6, p7⟩ := hR.newOth hg ho
    exact ⟨ρ', pl, p1, ⟨p2, p3⟩, p6, p7⟩

theorem FreshOk.sem {P : Program} {ρ : Rho} {S : AS} {w : World} {s : Sem Value} {v : AV} {obj : AObj} (hR : R Λ ρ S w) (h : FreshOk P ρ w s S.next v obj) :
    SemOk Λ P ρ S w s v ⟨S.h.set S.next obj, Nat.succ S.next⟩ := by
  obtain ⟨x, o', w', r1, r2, r3, r4⟩ := h
  obtain ⟨ρ', pl, p1, p2, p3, p4⟩ := hR.fresh' r2 r3
  exact ⟨x, ρ', w', r1, r4 ρ' pl p1 p2, p3, p4⟩

theorem row_fresh {ρ : Rho} {cells : List AV} {C : Array Value} {e : TypeId} (hc : Cells ρ cells C.toList) :
    ObjRel ρ (.row cells 0 0 false e) (.cells C e) :=
  ⟨rfl, rfl, rfl, C, rfl, by have := hc.length; simp at this; omega, by rw [List.take_of_length_le (by have := hc.length; omega)]; exact hc, OnesC.of hc.2⟩

theorem repL_rel {ρ : Rho} {zero : List AV} {z : Array Value} (h : Cells ρ zero z.toList) : ∀ n, Cells ρ (repL n zero) (List.flatten (List.replicate n z.toList)) := by
  intro n; induction n with
  | zero => exact ⟨LRel.nil, fun x hx => by simp at hx⟩
  | succ n ih =>
    have : repL (n + 1) zero = appL zero (repL n zero) := rfl
    rw [this, appL_eq, List.replicate_succ, List.flatten_cons]
    exact h.append ih
theorem flat_get {α : Type} (l : List α) : ∀ (n i : Nat), i < n * l.length → (List.flatten (List.replicate n l))[i]? = l[i % l.length]? := by
  intro n; induction n with
  | zero => intro i h; omega
  | succ n ih =>
    intro i h
    rw [List.replicate_succ, List.flatten_cons]
    by_cases hi : i < l.length
    · rw [List.getElem?_append_left hi, Nat.mod_eq_of_lt hi]
    · have h' : i < n * l.length + l.length := by rw [Nat.add_mul, Nat.one_mul] at h; exact h
      rw [List.getElem?_append_right (by omega), ih _ (by omega), ← Nat.mod_eq_sub_mod (by omega)]
theorem flat_len {α : Type} (l : List α) : ∀ n, (List.flatten (List.replicate n l)).length = n * l.length := by
  intro n; simp
/-- The model's row of zeros. -/
theorem zeros_eq (z : Array Value) (n m : Nat) (hm : m = n * z.size) : ((Array.range m).map (z[· % z.size]!)).toList = List.flatten (List.replicate n z.toList) := by
  apply List.ext_getElem?
  intro i
  rw [Array.toList_map, Array.toList_range, List.getElem?_map]
  by_cases hi : i < m
  · rw [List.getElem?_range hi, flat_get _ _ _ (by simp; omega)]
    have hz : 0 < z.size := by
      rcases Nat.eq_zero_or_pos z.size with h | h
      · rw [h] at hm; omega
      · exact h
    have hlt : i % z.size < z.size := Nat.mod_lt _ hz
    simp only [Option.map_some, Array.length_toList]
    rw [getElem!_pos z (i % z.size) hlt]
    simp [hlt]
  · rw [List.getElem?_eq_none (by simp; omega), List.getElem?_eq_none (by rw [flat_len]; simp; omega)]
    rfl

theorem fresh_run {P : Program} {cx : Cx} (hcx : CxOk Λ P cx) {ρ : Rho} {F : Fr} {a : Act} (hF : FRel ρ F a) {id : Nat} {o : Oper} {v : AV} {obj : AObj} (h : freshV cx F id o.op = some (v, obj)) (w : World) :
    ∃ s : Sem Value, execOp a.eval o = (do pure (.value (← s))) ∧ FreshOk P ρ w s id v obj := by
  obtain ⟨dst, op, ty, pos, after, guard⟩ := o
  simp only at h
  cases op <;> simp only [freshV, reduceCtorEq] at h
  case alloc e =>
    cases hz : zeroOf cx e with
    | none => simp [hz] at h
    | some z =>
      simp only [hz] at h
      cases hc : cellsOf z with
      | none => simp [hc] at h
      | some cs =>
        simp only [hc, Option.some.injEq, Prod.mk.injEq] at h
        obtain ⟨rfl, rfl⟩ := h
        obtain ⟨zv, zr, zrel⟩ := zero_run hcx hz
        have hcells := cellsOf_rel hc (zrel ρ)
        refine ⟨_, rfl, .pointer (some ⟨w.heap.size, 0, none⟩), .cells zv.cells e, w.alloc (.cells zv.cells e), ?_, ⟨⟨rfl, rfl, rfl⟩, rfl⟩, row_fresh hcells, ?_⟩
        · simp only [Instr.alloc, Sem.run_bind, zr, Result.andThen_ok, newVar, Go.newRow, run_newObj, Sem.run_pure]; rfl
        · rintro ρ' pl hp ⟨e1, e2, e3, e4⟩
          simp only [VRel]
          exact ⟨pl, hp, by rw [lenL_eq, e3]; exact Nat.le_refl _, by rw [e1, e2]⟩
  case box t x =>
    cases hc : cellsOf (eval F x) with
    | none => simp [hc] at h
    | some cs =>
      simp only [hc, Option.some.injEq, Prod.mk.injEq] at h
      obtain ⟨rfl, rfl⟩ := h
      have hcells := cellsOf_rel hc (hF.eval x)
      refine ⟨_, rfl, .pointer (some ⟨w.heap.size, 0, none⟩), .cells (a.eval x).cells t, w.alloc (.cells (a.eval x).cells t), ?_, ⟨⟨rfl, rfl, rfl⟩, rfl⟩, row_fresh hcells, ?_⟩
      · simp only [Instr.box, Sem.run_bind, Result.andThen_ok, newVar, Go.newRow, run_newObj, Sem.run_pure]; rfl
      · rintro ρ' pl hp ⟨e1, e2, e3, e4⟩
        simp only [VRel]
        exact ⟨pl, hp, by rw [lenL_eq, e3]; exact Nat.le_refl _, by rw [e1, e2]⟩
  case buildSlice t n parts =>
    cases hu : und cx t with
    | none => simp [hu] at h
    | some d =>
      rw [hu] at h
      cases d <;> simp only [reduceCtorEq] at h
      rename_i e
      split at h
      · rename_i z zv hs hz
        cases hc : cellsOf zv with
        | none => simp [hc] at h
        | some zero =>
          simp only [hc, nbeq, nble, lenL_eq, Nat.mul_eq, Nat.succ_eq_add_one] at h
          cases hcd : (decide (zero.length = z + 1) && decide (n * (z + 1) ≤ 16777216)) with
          | false => simp [hcd] at h
          | true =>
            simp only [hcd, cond_true] at h
            simp only [Bool.and_eq_true, decide_eq_true_eq] at hcd
            have hbig : n * (z + 1) ≤ 16777216 := hcd.2
            cases hf : fillL cx F (fun i => some (i * (z + 1), z + 1)) parts.toList (repL n zero) with
            | none => simp [hf] at h
            | some cells =>
              simp only [hf, Option.some.injEq, Prod.mk.injEq] at h
              obtain ⟨rfl, rfl⟩ := h
              obtain ⟨zc, zr, zrel⟩ := zero_run hcx hz
              have hzc := cellsOf_rel hc (zrel ρ)
              have hzs : zc.cells.size = z + 1 := by have := hzc.length; simp at this; omega
              have hzero : Cells ρ (repL n zero) ((Array.range (n * (z + 1))).map (zc.cells[· % zc.cells.size]!)).toList := by
                rw [zeros_eq zc.cells n _ (by rw [hzs])]; exact repL_rel hzc n
              obtain ⟨D, r1, r2⟩ := fillL_run hF _ _ _ _ hf hzero
              have hDs : D.size = n * (z + 1) := by
                have h1 := r2.length
                have h2 : cells.length = (repL n zero).length := by
                  clear r1 r2 h1 
                  revert hf
                  have gen : ∀ (l : List (Nat × Operand)) (c out : List AV), fillL cx F (fun i => some (i * (z + 1), z + 1)) l c = some out → out.length = c.length := by
                    intro l; induction l with
                    | nil => intro c out hh; simp only [fillL, Option.some.injEq] at hh; rw [hh]
                    | cons p l ih =>
                      intro c out hh
                      have hh' : (match cellsOf (eval F p.2) with
                        | some new => cond (Nat.beq (lenL new) (z + 1) && Nat.ble (Nat.add (p.1 * (z + 1)) (z + 1)) (lenL c)) (fillL cx F (fun i => some (i * (z + 1), z + 1)) l (splice (p.1 * (z + 1)) c new)) none
                        | none => none) = some out := by
                        have h0 : (match some (p.1 * (z + 1), z + 1), cellsOf (eval F p.2) with
                          | some (off, size), some new => cond (Nat.beq (lenL new) size && Nat.ble (Nat.add off size) (lenL c)) (fillL cx F (fun i => some (i * (z + 1), z + 1)) l (splice off c new)) none
                          | _, _ => none) = some out := hh
                        cases hcp : cellsOf (eval F p.2) <;> simp only [hcp] at h0 ⊢ <;> exact h0
                      cases hcp : cellsOf (eval F p.2) with
                      | none => simp [hcp] at hh'
                      | some new =>
                        simp only [hcp, nbeq, nble, lenL_eq, Nat.add_eq] at hh'
                        cases hc2 : (decide (new.length = z + 1) && decide (p.1 * (z + 1) + (z + 1) ≤ c.length)) with
                        | false => simp only [hc2, cond_false, reduceCtorEq] at hh'
                        | true =>
                          simp only [hc2, cond_true] at hh'
                          simp only [Bool.and_eq_true, decide_eq_true_eq] at hc2
                          rw [ih _ _ hh', length_splice _ _ _ (by omega)]
                  exact gen _ _ _
                have h3 := (repL_rel hzc n).length
                rw [flat_len] at h3
                simp only [Array.length_toList] at h1 h3
                rw [← h1, h2, h3, hzs]
              refine ⟨_, rfl, .slice (some ⟨w.heap.size, 0, none⟩) n n, .cells D e, w.alloc (.cells D e), ?_, ⟨⟨rfl, rfl, rfl⟩, rfl⟩, row_fresh r2, ?_⟩
              · have hnb : ¬ (n * (z + 1) > 2 ^ 24) := by
                  have : (2 : Nat) ^ 24 = 16777216 := by decide
                  omega
                have r1' : Instr.fill (fun i => some (i * (z + 1), z + 1)) ((Array.range (n * (z + 1))).map (zc.cells[· % zc.cells.size]!)) (parts.toList.map fun p => (p.1, a.eval p.2)) = some D := r1
                simp only [Instr.buildSlice, Sem.run_bind, run_und hcx hu, Result.andThen_ok, run_sz hcx hs, Array.toList_map]
                rw [if_neg hnb]
                by_cases h0 : n * (z + 1) = 0
                · have e0 : (Array.range (n * (z + 1))).map (zc.cells[· % zc.cells.size]!) = (Array.range (n * (z + 1))).map ((#[] : Array Value)[· % (#[] : Array Value).size]!) := by rw [h0]; apply Array.ext'; simp
                  rw [e0] at r1'
                  simp only [if_pos h0, Sem.run_bind, Sem.run_pure, Result.andThen_ok, r1', Go.newRow, run_newObj]; rfl
                · simp only [if_neg h0, Sem.run_bind, zr, Sem.run_pure, Result.andThen_ok, r1', Go.newRow, run_newObj]; rfl
              · rintro ρ' pl hp ⟨e1, e2, e3, e4⟩
                have hcl : cells.length = n * (z + 1) := by have := r2.length; simp at this; omega
                refine VRel.slice_mk pl n hp (by rw [e3, hcl]; exact Nat.le_refl _) (by show 0 + n * (z + 1) ≤ n * (z + 1); omega) (Nat.succ_pos _) (Nat.le_refl _) (.inl ⟨by rw [e1, e2], ?_, fun k hk => ?_⟩)
                · rw [e2, e4, hDs]; show 0 + 0 + n * (z + 1) ≤ n * (z + 1); omega
                · cases hk; exact ⟨rfl, by show 0 + n * (z + 1) ≤ n * (z + 1); omega⟩
      · cases h
  case makeMap t r =>
    cases hu : und cx t with
    | none => simp [hu] at h
    | some d =>
      rw [hu] at h
      cases d <;> simp only [reduceCtorEq] at h
      rename_i kt et
      cases hh : hintOk F r with
      | false => simp [hh] at h
      | true =>
      simp only [hh, cond_true, Option.some.injEq, Prod.mk.injEq] at h
      obtain ⟨rfl, rfl⟩ := h
      have fin : (Instr.makeMap t (r.map a.eval)).run P w = .ok (.map (some w.heap.size)) (w.alloc (.map #[] 0)) → FreshOk P ρ w (Instr.makeMap t (r.map a.eval)) id (.map id) (.map [] 0) := by
        intro hrun
        refine ⟨_, .map #[] 0, _, hrun, ⟨⟨rfl, rfl, rfl⟩, rfl⟩, ⟨#[], rfl, rfl, fun i e m he => by simp at he⟩, ?_⟩
        intro ρ' pl hp e1
        simp only [VRel]
        have e1' : pl.b = w.heap.size := e1
        exact ⟨pl, hp, by rw [e1']⟩
      cases r with
      | none =>
        refine ⟨_, rfl, fin ?_⟩
        simp only [Instr.makeMap, Option.map_none, Sem.run_bind, run_newObj, Result.andThen_ok, Sem.run_pure]; rfl
      | some x =>
        cases hn : natOf (eval F x) with
        | none => simp [hintOk, hn, isS] at hh
        | some n =>
          refine ⟨_, rfl, fin ?_⟩
          obtain ⟨k, hk⟩ := natOf_rel hn (hF.eval x)
          simp only [Instr.makeMap, Option.map_some, Sem.run_bind, run_und hcx hu, hk, asInt, asIntOf, run_newObj, Result.andThen_ok, Sem.run_pure]; rfl
  case makeSlice t lx cx' =>
    cases hu : und cx t with
    | none => simp [hu] at h
    | some d =>
      rw [hu] at h
      cases hl : natOf (eval F lx) with
      | none => rw [hl] at h; cases d <;> simp at h
      | some l =>
        cases hcc : natOf (eval F cx') with
        | none => rw [hl, hcc] at h; cases d <;> simp at h
        | some c =>
          rw [hl, hcc] at h
          cases d <;> simp only [reduceCtorEq] at h
          rename_i e
          split at h
          · rename_i z bs zv hs hb hz
            cases hc : cellsOf zv with
            | none => simp [hc] at h
            | some zero =>
              simp only [hc, nbeq, nble, lenL_eq, Nat.succ_eq_add_one] at h
              cases hcd : (decide (zero.length = z + 1) && decide (l ≤ c) && fits c bs) with
              | false => simp [hcd] at h
              | true =>
                simp only [hcd, cond_true, Option.some.injEq, Prod.mk.injEq] at h
                obtain ⟨rfl, rfl⟩ := h
                simp only [Bool.and_eq_true, decide_eq_true_eq, fits, nble] at hcd
                obtain ⟨⟨hzl, hlc⟩, hc1, hc2⟩ := hcd
                have hc2' : c * bs ≤ 140737488355328 := hc2
                obtain ⟨zc, zr, zrel⟩ := zero_run hcx hz
                have hzc := cellsOf_rel hc (zrel ρ)
                have hzs : zc.cells.size = z + 1 := by have := hzc.length; simp at this; omega
                let D := (Array.range (c * (z + 1))).map (zc.cells[· % zc.cells.size]!)
                have hD : Cells ρ (repL c zero) D.toList := by
                  show Cells ρ (repL c zero) ((Array.range (c * (z + 1))).map (zc.cells[· % zc.cells.size]!)).toList
                  rw [zeros_eq zc.cells c _ (by rw [hzs])]; exact repL_rel hzc c
                have hDs : D.size = c * (z + 1) := by simp [D]
                have hrl : (repL c zero).length = c * (z + 1) := by have := hD.length; simp only [Array.length_toList] at this; omega
                refine ⟨_, rfl, .slice (some ⟨w.heap.size, 0, none⟩) l c, .cells D e, w.alloc (.cells D e), ?_, ⟨⟨rfl, rfl, rfl⟩, rfl⟩, row_fresh hD, ?_⟩
                · obtain ⟨k1, hk1⟩ := natOf_rel hl (hF.eval lx)
                  obtain ⟨k2, hk2⟩ := natOf_rel hcc (hF.eval cx')
                  have hi : ∃ i, cx.tys.get e = some i ∧ i.bytes = bs := by
                    unfold bytesOf at hb
                    cases hi : cx.tys.get e with
                    | none => simp [hi] at hb
                    | some i => simp only [hi, Option.some.injEq] at hb; exact ⟨i, rfl, hb⟩
                  obtain ⟨i, hi, hib⟩ := hi
                  have w1 : IntKind.i64.wrap (l : Int) = l := IntWalk.i64_in _ (by omega)
                  have w2 : IntKind.i64.wrap (c : Int) = c := IntWalk.i64_in _ (by omega)
                  have e48 : ((2 : Int) ^ 48) = 281474976710656 := by decide
                  have t1 : (decide ((c : Int) < 0) || decide ((i.bytes : Int) * (c : Int) > 2 ^ 48) || decide ((l : Int) < 0) || decide ((l : Int) > (c : Int))) = false := by
                    rw [e48, hib]
                    have : (bs : Int) * (c : Int) ≤ 140737488355328 := by
                      rw [← Int.natCast_mul, Nat.mul_comm]
                      omega
                    rw [decide_eq_false (by omega), decide_eq_false (by omega), decide_eq_false (by omega), decide_eq_false (by omega)]; rfl
                  simp only [Instr.makeSlice, Sem.run_bind, run_und hcx hu, Result.andThen_ok, hk1, hk2, asInt, asIntOf, Sem.run_pure, run_info hcx hi, w1, w2]
                  rw [t1]
                  simp only [Bool.false_eq_true, if_false, Sem.run_bind, run_askRoom, Result.andThen_ok, run_sz hcx hs, Int.toNat_natCast]
                  by_cases h0 : c * (z + 1) = 0
                  · have e0 : D = (Array.range (c * (z + 1))).map ((#[] : Array Value)[· % (#[] : Array Value).size]!) := by
                      apply Array.ext'
                      simp [D, h0]
                    rw [e0, if_pos h0]
                    simp only [Sem.run_bind, Sem.run_pure, Result.andThen_ok, Go.newRow, run_newObj]; rfl
                  · rw [if_neg h0]
                    simp only [Sem.run_bind, zr, Sem.run_pure, Result.andThen_ok, Go.newRow, run_newObj]; rfl
                · rintro ρ' pl hp ⟨e1, e2, e3, e4⟩
                  have hlz : l * (z + 1) ≤ c * (z + 1) := Nat.mul_le_mul_right _ hlc
                  refine VRel.slice_mk pl c hp (by rw [e3, hrl]; exact Nat.le_refl _) (by show 0 + l * (z + 1) ≤ c * (z + 1); omega) (Nat.succ_pos _) hlc (.inl ⟨by rw [e1, e2], ?_, fun k hk => ?_⟩)
                  · rw [e2, e4, hDs]; show 0 + 0 + c * (z + 1) ≤ c * (z + 1); omega
                  · cases hk; exact ⟨rfl, by show 0 + c * (z + 1) ≤ c * (z + 1); omega⟩
          · cases h
theorem growZ_run {P : Program} {cx : Cx} (hcx : CxOk Λ P cx) {ts : Array TypeId} {t u ty e : TypeId} {sz bs sLen sCap n : Nat} {base : Option Addr} {k ku : IntKind} {old : Array Value} {w : World} {zv : Value}
    (hts : ts[0]? = some t) (hts1 : ts[1]? = some u) (hu : und cx t = some (.slice e)) (hu1 : und cx u = some (.int ku)) (hs : szOf cx e = some sz) (hsz : 0 < sz) (hb : bytesOf cx e = some bs)
    (zr : ∀ w, (zeroValue e).run P w = .ok zv w) (hzs : zv.cells.size = sz) (hzo : ∀ v, v ∈ zv.cells.toList → v.oneCell' = true) (hn0 : 0 < n)
    (hgt : ¬ sLen + n ≤ sCap) (hf : fits (sLen + n) bs = true)
    (hold : ∀ k, (Builtin.firstCells sz sLen (.slice base sLen sCap)).run P { w with drawn := k } = .ok old { w with drawn := k })
    (ho : old.size = sLen * sz) :
    ∃ (rest : Array Value) (c : Nat) (w' : World), (Builtin.append_ ts ty #[.slice base sLen sCap, .int k n]).run P w = .ok (.slice (some ⟨w.heap.size, 0, none⟩) (sLen + n) c) w' ∧
      Grew (.cells (old ++ Builtin.zeroCells zv.cells n ++ rest) e) w w' ∧ sLen + n ≤ c ∧ (old ++ Builtin.zeroCells zv.cells n ++ rest).size = c * sz ∧ OnesC rest := by
  simp only [fits, nble, Bool.and_eq_true, decide_eq_true_eq] at hf
  obtain ⟨hf1, hf2⟩ := hf
  have hf2' : (sLen + n) * bs ≤ 140737488355328 := hf2
  have hinfo : ∀ w, (typeInfo e).run P w = .ok ((cx.tys.get e).getD default) w ∧ ((cx.tys.get e).getD default).bytes = bs := by
    intro w
    unfold bytesOf at hb
    cases hi : cx.tys.get e with
    | none => simp [hi] at hb
    | some i => simp only [hi, Option.some.injEq] at hb; exact ⟨run_info hcx hi w, hb⟩
  let q : Question := .appendCap (sLen + n) sCap e
  let c := q.cut (w.tape w.drawn q)
  have hc : c = sLen + n + w.tape w.drawn q % (2 ^ 63 - (sLen + n)) := rfl
  have hge : sLen + n ≤ c := by rw [hc]; exact Nat.le_add_right _ _
  have hi64 : IntKind.i64.max = 9223372036854775807 := rfl
  have hmax : ¬ (((sLen + n : Nat) : Int) > IntKind.i64.max ∧ (True ∨ ((cx.tys.get e).getD default).bytes = 0)) := by
    rintro ⟨h1, _⟩
    rw [hi64] at h1
    omega
  have e48 : (2 : Nat) ^ 48 = 281474976710656 := by decide
  have e48i : (2 : Int) ^ 48 = 281474976710656 := by decide
  have hcap : ¬ (Builtin.nextslicecap (sLen + n) sCap * ((cx.tys.get e).getD default).bytes > 2 ^ 48) := by
    rw [(hinfo w).2]
    have := growslice_fits (old := sCap) (bytes := bs) (by omega : sCap < sLen + n) hf2'
    rw [e48]; omega
  have hw : IntKind.i64.wrap (n : Int) = n := IntWalk.i64_in _ (by omega)
  have hnb : n * bs ≤ 140737488355328 := Nat.le_trans (Nat.mul_le_mul_right _ (Nat.le_add_left _ _)) hf2'
  have hnbi : ¬ ((n : Int) * ((((cx.tys.get e).getD default).bytes : Nat) : Int) > 2 ^ 48) := by
    rw [(hinfo w).2, e48i, ← Int.natCast_mul]; omega
  have hneg : ¬ ((n : Int) < 0) := by omega
  have hnz : ¬ (n * sz = 0) := Nat.mul_ne_zero (by omega) (by omega)
  refine ⟨Builtin.zeroCells zv.cells (c - (sLen + n)), c, { w with drawn := w.drawn + 1, heap := w.heap.push (.cells (old ++ Builtin.zeroCells zv.cells n ++ Builtin.zeroCells zv.cells (c - (sLen + n))) e) }, ?_, Grew.drawn _, hge, ?_, ones_zc hzo _⟩
  · have hd0 : ∀ w, (underlying u).run P w = .ok (.int ku) w := fun w => run_und hcx hu1 w
    have hch : (choose (.appendCap (sLen + n) sCap e)).run P w = .ok c { w with drawn := w.drawn + 1 } := by
      rw [run_choose]; rfl
    have h1 := hold (w.drawn + 1)
    have hi1 : ∀ w, (typeInfo e).run P w = .ok ((cx.tys.get e).getD default) w := fun w => (hinfo w).1
    unfold Builtin.append_
    simp only [hts, hts1, List.getElem?_toArray, List.getElem?_cons_zero, List.getElem?_cons_succ, Sem.run_bind, run_und hcx hu, run_sz hcx hs, Result.andThen_ok, hd0, Sem.run_pure]
    simp only [if_true, asInt, asIntOf, Sem.run_bind, Sem.run_pure, Result.andThen_ok, hw, if_neg hneg, hi1, if_neg hnbi, Int.toNat_natCast, if_neg hgt]
    rw [if_neg hmax]
    simp only [Sem.run_bind, hi1, Result.andThen_ok]
    rw [if_neg hcap]
    simp only [Sem.run_bind, hi1, Result.andThen_ok, hch, run_askRoom, h1, Bool.not_true, Bool.false_eq_true, if_false, if_neg hnz, zr, Sem.run_pure, Go.newRow, run_newObj]
  · simp only [Array.size_append, size_zc, hzs, ho]
    rw [← Nat.add_mul, ← Nat.add_mul]
    congr 1
    omega
theorem appZ_run {P : Program} {cx : Cx} (hcx : CxOk Λ P cx) {ρ : Rho} {S S' : AS} {w : World} (hR : R Λ ρ S w) {ts : Array TypeId} {t u ty e : TypeId} {s x v : AV} {s' x' : Value} {ku : IntKind}
    (h : appZ cx S e s x = some (v, S')) (hts : ts[0]? = some t) (hts1 : ts[1]? = some u) (hu : und cx t = some (.slice e)) (hu1 : und cx u = some (.int ku))
    (hsr : VRel ρ s s') (hxr : VRel ρ x x') : SemOk Λ P ρ S w (Builtin.append_ ts ty #[s', x']) v S' := by
  unfold appZ at h
  split at h
  · rename_i z bs zv id g off len lim sz c k n hs hb hz
    split at h
    · rename_i zero l old hzc htk
      simp only [nbeq, nblt, lenL_eq, Nat.add_eq] at h
      cases hc : (decide (zero.length = Nat.succ z) && decide (c < len + n) && fits (len + n) bs) with
      | false => rw [hc] at h; cases h
      | true =>
        rw [hc, cond_true] at h
        simp only [Bool.and_eq_true, decide_eq_true_eq] at hc
        obtain ⟨⟨hzl, hlt⟩, hfit⟩ := hc
        obtain ⟨zv', zr, zrel⟩ := zero_run hcx hz
        have hzc' := cellsOf_rel hzc (zrel ρ)
        have hzs : zv'.cells.size = z + 1 := by have := hzc'.length; simp at this; omega
        obtain ⟨_, hnl, _⟩ := taken_run (P := P) hR htk hsr
        obtain ⟨oarr, o1, o2, o3⟩ := taken_all (P := P) hR htk hsr
        have hll : l = len ∧ ∃ ad c', s' = .slice ad len c' ∧ len ≤ c' ∧ c' = c := by
          have hsr' := hsr
          simp only [VRel] at hsr'
          obtain ⟨pl, c', p1, p2, p3, p4, p5, hh⟩ := hsr'
          constructor
          · unfold taken at htk
            simp only [nbeq] at htk
            by_cases hzz : sz = Nat.succ z
            · rw [decide_eq_true hzz, cond_true] at htk
              cases len with
              | zero => simp only [Option.some.injEq, Prod.mk.injEq] at htk; exact htk.1.symm
              | succ m =>
                simp only at htk
                split at htk
                · simp only [Option.some.injEq, Prod.mk.injEq] at htk; exact htk.1.symm
                · cases htk
            · rw [decide_eq_false hzz] at htk; cases htk
          · rcases hh with ⟨e1, _, e3⟩ | ⟨e1, e2, e3, a, e4⟩
            · exact ⟨_, c', e1, p5, (e3 c rfl).1⟩
            · refine ⟨some a, 0, ?_, by omega, (e3 c rfl).symm⟩
              rw [e4, e1]
        obtain ⟨rfl, ad, c', rfl, hlc, rfl⟩ := hll
        simp only [VRel] at hxr
        subst hxr
        obtain ⟨rest, cc, w', r1, r2, r3, r4, r6⟩ := growZ_run (P := P) hcx (ts := ts) (ty := ty) (k := k) (sLen := l) (sCap := c') (base := ad) (n := n) (old := oarr) hts hts1 hu hu1 hs (Nat.succ_pos _) hb zr hzs hzc'.2 (by omega) (by omega) hfit o1 o3
        have hzcell : Cells ρ (repL n zero) (Builtin.zeroCells zv'.cells n).toList := by
          unfold Builtin.zeroCells
          rw [zeros_eq zv'.cells n _ rfl]; exact repL_rel hzc' n
        have hrl : (repL n zero).length = n * (z + 1) := by have := hzcell.length; simp [size_zc, hzs] at this; omega
        obtain ⟨ρ', q1, q2, q3⟩ := grown_rel hR r2 (cells := appL old (repL n zero)) (need := l + n) (c := cc) (sz := z + 1) (by
          have hlen : (appL old (repL n zero)).length = (oarr ++ Builtin.zeroCells zv'.cells n).size := by
            rw [appL_eq, List.length_append, hrl, hnl, Array.size_append, o3, size_zc, hzs]
          rw [hlen, appL_eq]
          have e : (oarr ++ Builtin.zeroCells zv'.cells n ++ rest).toList.take (oarr ++ Builtin.zeroCells zv'.cells n).size = oarr.toList ++ (Builtin.zeroCells zv'.cells n).toList := by
            simp only [Array.toList_append]
            rw [List.take_append_of_le_length (by simp), List.take_of_length_le (by simp)]
          rw [e]
          exact o2.append hzcell) (by rw [appL_eq, List.length_append, hrl, hnl]; exact (Nat.add_mul _ _ _).symm) r4 r3 (Nat.succ_pos _) (((OnesC.of o2.2).append (OnesC.of hzcell.2)).append r6)
        rw [Option.some.injEq] at h
        rw [h] at q1 q2 q3
        exact ⟨_, ρ', w', r1, q1, q2, q3⟩
    · cases h
  · cases h

end Go.Am
