/-
  The abstract machine against the model: types, loads, stores.
  The abstract machine against the model: what reckons alone.
-/
import Derived.Lib.Overlaps
import Derived.Test.YtpgmahedcpepkaaGreatDoorAmRel
import Derived.Laws.StructEq
import Derived.Calls
import Derived.IntWalk
namespace Go.Am
open Go
variable {Λ : LB}

/-- What the machine says of a function without a body is so. -/
def ExtOk (P : Program) (f : FuncId) : Xf → Prop
  | .ident => ∀ (v : Value) (w : World), (callFunc f #[v]).run P w = .ok (.value v) w
  | .cmpstr => ∀ (a b : ByteArray) (w : World), (callFunc f #[.string a, .string b]).run P w = .ok (.value (.int .i64 (if ltS (a.data.toList.map UInt8.toNat) (b.data.toList.map UInt8.toNat) then -1 else if eqS (a.data.toList.map UInt8.toNat) (b.data.toList.map UInt8.toNat) then 0 else 1))) w
  | .idxByte => ∀ (a : ByteArray) (c : Nat) (w : World), c < 256 → (callFunc f #[.string a, .int .u8 c]).run P w = .ok (.value (match idxB c (a.data.toList.map UInt8.toNat) 0 with | some n => .int .i64 n | none => .int .i64 (-1))) w
  | .idxStr => ∀ (a b : ByteArray) (w : World), (callFunc f #[.string a, .string b]).run P w = .ok (.value (match idxS (b.data.toList.map UInt8.toNat) (a.data.toList.map UInt8.toNat) 0 with | some n => .int .i64 n | none => .int .i64 (-1))) w
  | .cntStr => ∀ (a : ByteArray) (c : Nat) (w : World), c < 256 → (callFunc f #[.string a, .int .u8 c]).run P w = .ok (.value (.int .i64 (cntB c (a.data.toList.map UInt8.toNat) 0))) w
  | .noZero e => ∃ (ps : Array TypeId) (t : TypeId), P.underlying t = some (.slice e) ∧ ∀ (args : Array Value) (w : World), (callFunc f args).run P w = ((Extern.BytealgMakeNoZero.makeNoZero ps #[t] args).run P w).andThen fun v w' => .ok (.value v) w'
  | .apart => ∃ (t tR e : TypeId) (size : Nat), P.underlying t = some (.slice e) ∧ (∀ w, (Go.sizeOf e).run P w = .ok size w) ∧
      ∀ (args : Array Value) (w : World), (callFunc f args).run P w = ((Extern.SlicesOverlaps.overlaps #[t, t] #[tR] args).run P w).andThen fun v w' => .ok (.value v) w'

/-- What the machine says of a function that it does not enter is so. -/
def PrimOk (Λ : LB) (P : Program) (f : FuncId) (q : List AV → AS → Option (AV × AS)) : Prop :=
  ∀ (ρ : Rho) (as : List AV) (S : AS) (w : World) (args : Array Value) (v : AV) (S' : AS), R Λ ρ S w → LRel ρ as args.toList → q as S = some (v, S') →
    (∃ fn, P.funcs[f]? = some fn ∧ fn.body.isSome = true) ∧
    Calls P f args w fun e w' => ∃ x ρ', e = .returned x ∧ VRel ρ' v x ∧ R Λ ρ' S' w' ∧ Kp ρ S w ρ' S' w'

/-- The cells of a package-level variable, as they stand in the world at the beginning. -/
def GlobOk (w : World) (B : Nat → Prop) (g : Nat) (cs : List AV) : Prop :=
  B g ∧ ∃ (C : Array Value) (e : TypeId) (fr : Nat × Nat), w.heap[g]? = some (.cells C e fr) ∧ ∀ (i : Nat) (x : AV), cs[i]? = some x → ∃ v, C[i]? = some v ∧ (∀ ρ, VRel ρ x v) ∧ v.oneCell' = true

/-- The tables are the program's. -/
structure CxOk (Λ : LB) (P : Program) (cx : Cx) : Prop where
  tys : ∀ t i, cx.tys.get t = some i → P.info? t = some i
  fns : ∀ f fn, cx.fns.get f = some fn → P.funcs[f]? = some fn
  stood : ∀ t, cx.eqs.get t ≠ none → P.stoodInHeld t = false ∧ P.eqGuardType P.depth t = false ∧ ∀ f, f ∈ (P.fieldsOf t).toList → f.name ≠ "_"
  enters : ∀ f fn, P.funcs[f]? = some fn → fn.body.isSome = true → ∀ args w, (callFunc f args).run P w = .ok (.enter f args) w
  exts : ∀ f x, cx.exts.get f = some x → ExtOk P f x
  prims : ∀ f q, cx.prims.get f = some q → PrimOk Λ P f q
  globs : ∀ g cs, cx.globs.get g = some cs → GlobOk Λ.w Λ.B g cs

theorem Addr_add (b off n : Nat) : (⟨b, off, none⟩ : Addr).add n = ⟨b, off + n, none⟩ := by
  unfold Addr.add; split <;> simp_all

section
variable {P : Program} {cx : Cx} (hcx : CxOk Λ P cx)
include hcx
theorem und_ok {t : TypeId} {d : TypeDesc} (h : und cx t = some d) : P.underlying t = some d := by
  unfold und at h
  cases hi : cx.tys.get t with
  | none => simp [hi] at h
  | some i =>
    simp only [hi] at h
    have h1 := hcx.tys t i hi
    unfold Program.underlying
    rw [h1]
    obtain ⟨desc, a1, a2, a3, a4, a5, a6, a7, a8, a9⟩ := i
    cases desc with
    | named nm u =>
      simp only at h ⊢
      cases hu : cx.tys.get u with
      | none => simp [hu] at h
      | some j => simp only [hu] at h; rw [hcx.tys u j hu]; simpa using h
    | _ => simpa using h
theorem run_und {t : TypeId} {d : TypeDesc} (h : und cx t = some d) (w : World) : (underlying t).run P w = .ok d w := by
  simp [underlying, und_ok hcx h]
theorem run_sz {t : TypeId} {n : Nat} (h : szOf cx t = some n) (w : World) : (sizeOf t).run P w = .ok n w := by
  unfold szOf at h
  cases hi : cx.tys.get t with
  | none => simp [hi] at h
  | some i => simp only [hi, Option.some.injEq] at h; simp [sizeOf, typeInfo, hcx.tys t i hi, h]
theorem run_agg {t : TypeId} {b : Bool} (h : aggOf cx t = some b) (w : World) : (isAgg t).run P w = .ok b w := by
  unfold aggOf at h
  cases hu : und cx t with
  | none => simp [hu] at h
  | some d =>
    simp only [hu] at h
    simp only [isAgg, Sem.run_bind, run_und hcx hu, Result.andThen_ok]
    cases d <;> simp_all
theorem run_info {t : TypeId} {i : TypeInfo} (h : cx.tys.get t = some i) (w : World) : (typeInfo t).run P w = .ok i w := by
  simp [typeInfo, hcx.tys t i h]
end

/-! ### Constants -/
theorem ofVF_rel (ρ : Rho) : ∀ (n : Nat) (v : Value), VRel ρ (ofVF n v) v := by
  intro n; induction n with
  | zero => intro v; simp [ofVF, VRel]
  | succ n ih =>
    intro v
    have step : ofVF (n + 1) v = (match v with
      | .bool b => .bool b
      | .int k n => .int k n
      | .string s => .str (mapL UInt8.toNat s.data.toList)
      | .pointer none => .nilp
      | .slice none 0 0 => .nils
      | .map none => .nilm
      | .nilFunc => .nilf
      | .nilIface => .niface
      | .chan none => .nilc
      | .agg a => cond (a.toList.all Value.oneCell') (.agg (mapL (ofVF n) a.toList)) .top
      | _ => .top) := rfl
    rw [step]
    split <;> (try (simp [VRel, mapL_eq]; done))
    rename_i a
    cases h : a.toList.all Value.oneCell' with
    | false => simp [VRel]
    | true =>
      simp only [cond_true, VRel]
      refine ⟨a, rfl, ?_, fun x hx => List.all_eq_true.1 h x hx⟩
      rw [mapL_eq]
      exact (by simpa using LRel.map (ρ := ρ) (ofVF n) id ih a.toList)
theorem ofV_rel (ρ : Rho) (v : Value) : VRel ρ (ofV v) v := ofVF_rel ρ 2 v

/-! ### Frames -/
structure FRel (ρ : Rho) (F : Fr) (a : Act) : Prop where
  slot : ∀ t, VRel ρ (match F.t.get t with | some v => v | none => .undef) (a.tmps.getD t undef)
  size : a.tmps.size = F.n
  defers : DsRel ρ F.ds a.defers
theorem undef_rel (ρ : Rho) : VRel ρ .undef undef := by simp [AV.undef, undef, VRel, LRel]
theorem FRel.mono {ρ ρ' : Rho} {F : Fr} {a : Act} (h : FRel ρ F a) (hx : Ext ρ ρ') : FRel ρ' F a :=
  ⟨fun t => (h.slot t).mono hx _ _, h.size, h.defers.mono hx⟩
theorem eval_slot (F : Fr) (t : Tmp) : eval F (.tmp t) = match F.t.get t with | some v => v | none => .undef := by
  show @Option.rec AV (fun _ => AV) .undef (fun v => v) (F.t.get t) = _
  cases F.t.get t <;> rfl
theorem eval_glob (F : Fr) (g : Nat) : eval F (.global g) = .glob g 0 := rfl
theorem eval_fn (F : Fr) (f : FuncId) : eval F (.func f) = .func (.func f) [] [] := rfl
theorem FRel.eval {ρ : Rho} {F : Fr} {a : Act} (h : FRel ρ F a) (x : Operand) : VRel ρ (eval F x) (a.eval x) := by
  cases x with
  | tmp t => rw [eval_slot]; exact h.slot t
  | const v => exact ofV_rel ρ v
  | global g => simp [eval_glob, Act.eval, VRel]
  | func f => simp [eval_fn, Act.eval, VRel, LRel]
theorem FRel.put {ρ : Rho} {F : Fr} {a : Act} (h : FRel ρ F a) (dst : Option Tmp) {v : AV} {x : Value} (hv : VRel ρ v x) : FRel ρ (putD F dst v) (a.put dst x) := by
  cases dst with
  | none => exact h
  | some d =>
    rw [putD_some]
    rw [nblt]
    by_cases hd : d < F.n
    · rw [decide_eq_true hd]
      refine ⟨fun t => ?_, by simpa [Act.put] using h.size, h.defers⟩
      show VRel ρ (match (F.t.set d v).get t with | some v => v | none => .undef) ((a.tmps.setIfInBounds d x).getD t undef)
      by_cases ht : t = d
      · subst ht
        rw [get_set_same]
        have : t < a.tmps.size := by rw [h.size]; exact hd
        simpa [Array.getD, this] using hv
      · rw [get_set_ne _ _ ht]
        have := h.slot t
        have e : (a.tmps.setIfInBounds d x).getD t undef = a.tmps.getD t undef := by
          simp only [Array.getD_eq_getD_getElem?]
          rw [Array.getElem?_setIfInBounds_ne (fun e => ht e.symm)]
        rw [e]; exact this
    · rw [decide_eq_false hd]
      refine ⟨fun t => ?_, by simpa [Act.put] using h.size, h.defers⟩
      have : a.tmps.setIfInBounds d x = a.tmps := by
        simp only [Array.setIfInBounds]; rw [dif_neg (by rw [h.size]; exact hd)]
      show VRel ρ _ ((a.tmps.setIfInBounds d x).getD t undef)
      rw [this]; exact h.slot t

/-! ### Loads -/
theorem list_at {α : Type} (l : List α) (o n i : Nat) : ((l.drop o).take n)[i]? = if i < n then l[o + i]? else none := by
  rw [List.getElem?_take]; split <;> simp [List.getElem?_drop]
theorem cell_at {w : World} {b i : Nat} {C : Array Value} {e : TypeId} {fr : Nat × Nat} (h : w.heap[b]? = some (.cells C e fr)) : w.cell? ⟨b, i, none⟩ = C[i]? := by
  simp [World.cell?, h]
theorem froz_at {w : World} {b i : Nat} {C : Array Value} {e : TypeId} {fr : Nat × Nat} (h : w.heap[b]? = some (.cells C e fr)) : w.frozen? ⟨b, i, none⟩ = froz fr i := by
  simp [World.frozen?, h, froz]

/-- n cells, read through a generation that lives. -/
theorem load_row {P : Program} {ρ : Rho} {S : AS} {w : World} (h : R Λ ρ S w) {id g off n lim : Nat} {cs : List AV} (hr : rd S id g off n lim = some cs)
    {pl : Pl} (hp : ρ id g = some pl) (hl : lim ≤ pl.n) :
    ∃ a : Array Value, (loadCells ⟨pl.b, pl.base + off, none⟩ n).run P w = .ok a w ∧ a.size = n ∧ LRel ρ cs a.toList ∧ (∀ x, x ∈ a.toList → x.oneCell' = true) ∧ cs.length = n ∧
      ∀ i, i < n → ∃ v, w.cell? ⟨pl.b, pl.base + off + i, none⟩ = some v ∧ a.toList[i]? = some v := by
  unfold rd at hr
  cases hg : S.h.get id with
  | none => simp [hg] at hr
  | some o =>
    cases o with
    | map es c => simp [hg] at hr
    | oth x => simp [hg] at hr
    | row cells low top frz ty =>
      simp only [hg, nble, takeN_eq, dropN_eq, Nat.add_eq] at hr
      cases hc : (decide (low ≤ g) && decide (g ≤ top) && decide (off + n ≤ lim)) with
      | false => simp [hc] at hr
      | true =>
        simp only [hc, cond_true, Option.some.injEq] at hr
        simp only [Bool.and_eq_true, decide_eq_true_eq] at hc
        obtain ⟨⟨h1, h2⟩, h3⟩ := hc
        obtain ⟨_, hgs, _⟩ := h.objs id _ hg
        obtain ⟨pl', C, fr, g1, g2, g3, g4, g5, g6, g7, g8, _⟩ := hgs g h1 h2
        rw [hp] at g1; cases g1
        have hat : ∀ i, i < n → ∃ x v, cs[i]? = some x ∧ C[pl.base + off + i]? = some v ∧ VRel ρ x v ∧ v.oneCell' = true := by
          intro i hi
          obtain ⟨x, v, a1, a2, a3, a4⟩ := g6 (off + i) (by omega)
          refine ⟨x, v, ?_, by rw [Nat.add_assoc]; exact a2, a3, a4⟩
          rw [← hr, list_at, if_pos hi]; exact a1
        have hlen : cs.length = n := by rw [← hr]; simp; omega
        let f : Nat → Value := fun i => (C[pl.base + off + i]?).getD undef
        have hf : ∀ i, i < n → C[pl.base + off + i]? = some (f i) := fun i hi => by
          obtain ⟨x, v, _, a2, _⟩ := hat i hi; simp [f, a2]
        refine ⟨((List.range n).map f).toArray, ?_, by simp, ?_, ?_, hlen, ?_⟩
        · refine run_loadCells w _ n f fun j hj => ?_
          rw [Addr_add, cell_at g2]; exact hf j hj
        · refine LRel.iff.2 ⟨by simp [hlen], fun i x y hx hy => ?_⟩
          have hi : i < n := by
            rcases Nat.lt_or_ge i n with h' | h'
            · exact h'
            · rw [List.getElem?_eq_none (by omega)] at hx; cases hx
          obtain ⟨x', v, a1, a2, a3, _⟩ := hat i hi
          rw [hx] at a1; cases a1
          simp [hi] at hy
          have : f i = v := by simp [f, a2]
          rw [← hy, this]; exact a3
        · intro x hx
          simp at hx
          obtain ⟨i, hi, rfl⟩ := hx
          obtain ⟨_, v, _, a2, _, a4⟩ := hat i hi
          have : f i = v := by simp [f, a2]
          rw [this]; exact a4
        · intro i hi
          exact ⟨f i, by rw [cell_at g2]; exact hf i hi, by simp [hi]⟩

/-! ### Stores -/
theorem run_storeCells_blk {P : Program} (b : Nat) (e : TypeId) (fr : Nat × Nat) : ∀ (vs : List Value) (o i : Nat) (C : Array Value) (w : World), w.heap[b]? = some (.cells C e fr) →
    o + i + vs.length ≤ C.size → (∀ v, v ∈ vs → v.oneCell' = true) → (∀ j, j < C.size → froz fr j = false) →
    ∃ w' C', (storeCells ⟨b, o, none⟩ vs i).run P w = .ok () w' ∧ But b w w' ∧ w'.heap[b]? = some (.cells C' e fr) ∧ C'.size = C.size ∧
      ∀ j, C'[j]? = if o + i ≤ j ∧ j < o + i + vs.length then vs[j - (o + i)]? else C[j]? := by
  intro vs
  induction vs with
  | nil => intro o i C w hw _ _ _; exact ⟨w, C, rfl, But.refl _ _, hw, rfl, fun j => by rw [if_neg (by simp only [List.length_nil]; omega)]⟩
  | cons v vs ih =>
    intro o i C w hw hs h1 hf
    simp only [List.length_cons] at hs
    have hlt : o + i < C.size := by omega
    have hst : (store ((⟨b, o, none⟩ : Addr).add i) v).run P w = .ok () (w.setCell ⟨b, o + i, none⟩ v) := by
      rw [Addr_add, run_store P w _ v _ (h1 v (by simp)), cell_at hw, froz_at hw, hf _ hlt]
      rw [Array.getElem?_eq_getElem hlt]; rfl
    have hw1 : (w.setCell ⟨b, o + i, none⟩ v).heap[b]? = some (.cells (C.setIfInBounds (o + i) v) e fr) := by
      simp [World.setCell, Array.getElem?_modify, hw]
    obtain ⟨w', C', r1, r2, r3, r4, r5⟩ := ih o (i + 1) (C.setIfInBounds (o + i) v) _ hw1 (by simp; omega) (fun x hx => h1 x (by simp [hx])) (by simpa using hf)
    refine ⟨w', C', by simp only [storeCells, Sem.run_bind, hst, Result.andThen_ok, r1], But.trans ?_ r2, r3, by simpa using r4, fun j => ?_⟩
    · refine ⟨⟨rfl, rfl, rfl⟩, by simp, fun k hk => ?_⟩
      simp [World.setCell, Array.getElem?_modify, Ne.symm hk]
    · rw [r5 j]
      by_cases hj : o + i = j
      · subst hj
        rw [if_neg (by omega), if_pos (by simp)]
        simp [hlt]
      · by_cases hj2 : o + (i + 1) ≤ j ∧ j < o + (i + 1) + vs.length
        · rw [if_pos hj2, if_pos (by simp; omega)]
          have e' : j - (o + i) = (j - (o + (i + 1))) + 1 := by omega
          rw [e']; simp
        · rw [if_neg hj2, if_neg (by simp; omega)]
          rw [Array.getElem?_setIfInBounds_ne hj]

/-- Cells are written through the last generation. -/
theorem store_row {P : Program} {ρ : Rho} {S S' : AS} {w : World} (h : R Λ ρ S w) {id g off lim : Nat} {new : List AV} (hr : wr S id g off lim new = some S')
    {pl : Pl} (hp : ρ id g = some pl) (hl : lim ≤ pl.n) {vs : List Value} (hv : LRel ρ new vs) (h1 : ∀ v, v ∈ vs → v.oneCell' = true) :
    ∃ w', (storeCells ⟨pl.b, pl.base + off, none⟩ vs).run P w = .ok () w' ∧ R Λ ρ S' w' ∧ Kp ρ S w ρ S' w' := by
  unfold wr at hr
  cases hg : S.h.get id with
  | none => simp [hg] at hr
  | some o =>
    cases o with
    | map es c => simp [hg] at hr
    | oth x => simp [hg] at hr
    | row cells low top frz ty =>
      simp only [hg, nble, nbeq, lenL_eq, Nat.add_eq] at hr
      cases hc : (decide (g = top) && decide (off + new.length ≤ lim) && !frz) with
      | false => simp [hc] at hr
      | true =>
        simp only [hc, cond_true, Option.some.injEq] at hr
        simp only [Bool.and_eq_true, decide_eq_true_eq, Bool.not_eq_true'] at hc
        obtain ⟨⟨rfl, h3⟩, rfl⟩ := hc
        subst hr
        obtain ⟨hlt, hgs, _⟩ := h.objs id _ hg
        obtain ⟨pl', C, fr, g1, g2, g3, g4, g5, g6, g7, g8, _⟩ := hgs g hlt (Nat.le_refl _)
        rw [hp] at g1; cases g1
        have hn := g7 rfl
        have hvl := hv.length
        obtain ⟨w', C', r1, r2, r3, r4, r5⟩ := run_storeCells_blk (P := P) pl.b ty fr vs (pl.base + off) 0 C w g2 (by omega) h1 (by rw [g3]; exact fun i hi => g8 rfl i (Nat.le_of_lt hi))
        obtain ⟨q1, q2⟩ := h.write hg hp g2 r2 r3 r4 (cells' := splice off cells new) (length_splice _ _ _ (by omega)) (fun ho j v hj => by
          rw [r5 j] at hj
          split at hj
          · exact h1 v (List.mem_of_getElem? hj)
          · exact ho j v hj) (fun i hi => by
          rw [getElem?_splice _ _ _ (by omega)]
          have e1 := r5 (pl.base + i)
          by_cases hin : off ≤ i ∧ i < off + new.length
          · rw [if_pos hin]
            rw [if_pos (by omega)] at e1
            obtain ⟨x, hx⟩ : ∃ x, new[i - off]? = some x := ⟨new[i - off]'(by omega), by rw [List.getElem?_eq_getElem (by omega)]⟩
            obtain ⟨v, hvv, hrel⟩ := hv.get hx
            have e2 : pl.base + i - (pl.base + off + 0) = i - off := by omega
            rw [e2, hvv] at e1
            exact ⟨x, v, hx, e1, hrel, h1 v (List.mem_of_getElem? hvv)⟩
          · rw [if_neg hin]
            rw [if_neg (by omega)] at e1
            obtain ⟨x, v, a1, a2, a3, a4⟩ := g6 i (by omega)
            exact ⟨x, v, a1, by rw [e1]; exact a2, a3, a4⟩)
        exact ⟨w', r1, q1, q2⟩

end Go.Am

namespace Go.Am
open Go

/-! ### Numbers -/
theorem inR_nat (k : IntKind) (m : Nat) : inR k (m : Int) = decide (m < half k) := nblt
theorem inR_wrap {k : IntKind} {n : Int} (h : inR k n = true) : k.wrap n = n := by
  cases n with
  | ofNat m =>
    have hm : m < half k := of_decide_eq_true ((inR_nat k m).symm.trans h)
    cases k
    · exact IntWalk.i8_in _ (by simp only [half] at hm; simp only [Int.ofNat_eq_natCast]; omega)
    · exact IntWalk.i16_in _ (by simp only [half] at hm; simp only [Int.ofNat_eq_natCast]; omega)
    · exact IntWalk.i32_in _ (by simp only [half] at hm; simp only [Int.ofNat_eq_natCast]; omega)
    · exact IntWalk.i64_in _ (by simp only [half] at hm; simp only [Int.ofNat_eq_natCast]; omega)
    · exact IntWalk.u8_in _ (by simp only [half] at hm; simp only [Int.ofNat_eq_natCast]; omega)
    · exact IntWalk.u16_in _ (by simp only [half] at hm; simp only [Int.ofNat_eq_natCast]; omega)
    · exact IntWalk.u32_in _ (by simp only [half] at hm; simp only [Int.ofNat_eq_natCast]; omega)
    · exact IntWalk.u64_in _ (by simp only [half] at hm; simp only [Int.ofNat_eq_natCast]; omega)
  | negSucc m =>
    have hm : sgn k = true ∧ m < half k := by
      have h' : cond (sgn k) (Nat.blt m (half k)) false = true := h
      cases hs : sgn k with
      | false => rw [hs] at h'; cases h'
      | true => rw [hs] at h'; exact ⟨rfl, of_decide_eq_true (nblt.symm.trans h')⟩
    obtain ⟨hs, hm⟩ := hm
    cases k
    · exact IntWalk.i8_in _ (by simp only [half] at hm; omega)
    · exact IntWalk.i16_in _ (by simp only [half] at hm; omega)
    · exact IntWalk.i32_in _ (by simp only [half] at hm; omega)
    · exact IntWalk.i64_in _ (by simp only [half] at hm; omega)
    all_goals cases hs
theorem wrapF_eq (k : IntKind) (n : Int) : wrapF k n = k.wrap n := by
  unfold wrapF
  cases h : inR k n with
  | true => exact (inR_wrap h).symm
  | false => rfl
theorem mkI_eq (k : IntKind) (n : Int) : mkI k n = .int k (k.wrap n) := by rw [mkI, forceI_eq, wrapF_eq]

theorem half_bits (k : IntKind) : half k ≤ 2 ^ k.bits := by cases k <;> decide
theorem half_pow (k : IntKind) : ∃ m, half k = 2 ^ m := by
  cases k
  · exact ⟨7, rfl⟩
  · exact ⟨15, rfl⟩
  · exact ⟨31, rfl⟩
  · exact ⟨63, rfl⟩
  · exact ⟨8, rfl⟩
  · exact ⟨16, rfl⟩
  · exact ⟨32, rfl⟩
  · exact ⟨64, rfl⟩
theorem bv_nat (w a : Nat) (h : a < 2 ^ w) : (BitVec.ofInt w (a : Int)).toNat = a := by
  rw [BitVec.ofInt_natCast, BitVec.toNat_ofNat, Nat.mod_eq_of_lt h]

theorem bits_run {P : Program} {op : BinOp} {k : IntKind} {x y : Int} (hop : op = .and ∨ op = .or ∨ op = .xor ∨ op = .andNot) (w : World) :
    (Op.intBits op k x y).run P w = .ok (.int k (bitsS op k x y)) w := by
  rcases hop with rfl | rfl | rfl | rfl <;> rfl
theorem bitsI_eq {op : BinOp} {k : IntKind} {x y : Int} (hop : op = .and ∨ op = .or ∨ op = .xor ∨ op = .andNot) : bitsI op k x y = .int k (bitsS op k x y) := by
  have gen : op ≠ .andNot → ∀ a b : Nat, x = (a : Int) → y = (b : Int) → a < half k → b < half k → (natBits op a b : Int) = bitsS op k x y := by
    intro hne a b hx hy ha hb
    subst hx hy
    obtain ⟨m, hm⟩ := half_pow k
    have h2 := half_bits k
    have hn : natBits op a b < half k := by
      rcases hop with rfl | rfl | rfl | rfl
      · exact Nat.lt_of_le_of_lt Nat.and_le_left ha
      · rw [hm]; exact Nat.or_lt_two_pow (hm ▸ ha) (hm ▸ hb)
      · rw [hm]; exact Nat.xor_lt_two_pow (hm ▸ ha) (hm ▸ hb)
      · exact absurd rfl hne
    have hw : k.wrap (natBits op a b : Int) = natBits op a b := inR_wrap ((inR_nat _ _).trans (decide_eq_true hn))
    rw [← hw]
    rcases hop with rfl | rfl | rfl | rfl
    · show _ = k.wrap _; rw [BitVec.toNat_and, bv_nat _ a (by omega), bv_nat _ b (by omega)]; rfl
    · show _ = k.wrap _; rw [BitVec.toNat_or, bv_nat _ a (by omega), bv_nat _ b (by omega)]; rfl
    · show _ = k.wrap _; rw [BitVec.toNat_xor, bv_nat _ a (by omega), bv_nat _ b (by omega)]; rfl
    · exact absurd rfl hne
  unfold bitsI
  split
  · simp only [forceI_eq]
  · rename_i a b hne
    simp only [nblt, forceN_eq, forceI_eq]
    cases hc : (decide (a < half k) && decide (b < half k)) with
    | false => rfl
    | true =>
      simp only [Bool.and_eq_true, decide_eq_true_eq] at hc
      have := gen hne a b rfl rfl hc.1 hc.2
      simp only [cond_true]
      rw [← this]; rfl
  · simp only [forceI_eq]

theorem binI_run {P : Program} {op : BinOp} {k : IntKind} {a b : Int} {v : AV} (h : binI op k a b = some v) (hs : op ≠ .shl) (hs' : op ≠ .shr) (w : World) :
    ∃ x, (binOp op 0 (.int k a) (.int k b)).run P w = .ok x w ∧ ∀ ρ, VRel ρ v x := by
  cases op <;> simp only [binI, Option.some.injEq] at h
  case add => subst h; exact ⟨_, by simp [binOp, Op.intArith]; rfl, fun ρ => by rw [mkI_eq]; simp only [VRel]; rfl⟩
  case sub => subst h; exact ⟨_, by simp [binOp, Op.intArith]; rfl, fun ρ => by rw [mkI_eq]; simp only [VRel]; rfl⟩
  case mul => subst h; exact ⟨_, by simp [binOp, Op.intArith]; rfl, fun ρ => by rw [mkI_eq]; simp only [VRel]; rfl⟩
  case quo =>
    rw [eqI_eq] at h
    by_cases hb : b = 0
    · subst hb; simp at h
    · have : decide (b = Int.ofNat 0) = false := by simpa using hb
      rw [this] at h; simp only [cond_false, Option.some.injEq] at h; subst h
      exact ⟨_, by simp [binOp, Op.intDiv, hb]; rfl, fun ρ => by simp [mkI_eq, VRel]⟩
  case rem =>
    rw [eqI_eq] at h
    by_cases hb : b = 0
    · subst hb; simp at h
    · have : decide (b = Int.ofNat 0) = false := by simpa using hb
      rw [this] at h; simp only [cond_false, Option.some.injEq] at h; subst h
      exact ⟨_, by simp [binOp, Op.intDiv, hb]; rfl, fun ρ => by simp [forceI_eq, VRel]⟩
  case eql => subst h; exact ⟨_, by simp [binOp, Op.intCmp]; rfl, fun ρ => by simp [eqI_eq, VRel]; rfl⟩
  case neq => subst h; exact ⟨_, by simp [binOp, Op.intCmp]; rfl, fun ρ => by simp [eqI_eq, VRel]; rfl⟩
  case lss => subst h; exact ⟨_, by simp [binOp, Op.intCmp]; rfl, fun ρ => by simp [ltI_eq, VRel]⟩
  case leq => subst h; exact ⟨_, by simp [binOp, Op.intCmp]; rfl, fun ρ => by simp [ltI_eq, VRel, ← decide_not, Int.not_lt]⟩
  case gtr => subst h; exact ⟨_, by simp [binOp, Op.intCmp]; rfl, fun ρ => by simp [ltI_eq, VRel]⟩
  case geq => subst h; exact ⟨_, by simp [binOp, Op.intCmp]; rfl, fun ρ => by simp [ltI_eq, VRel, ← decide_not, Int.not_lt]⟩
  case and => subst h; exact ⟨_, by simp only [binOp, ne_eq, not_true_eq_false, if_false]; exact bits_run (by simp) w, fun ρ => by rw [bitsI_eq (by simp)]; simp only [VRel]⟩
  case or => subst h; exact ⟨_, by simp only [binOp, ne_eq, not_true_eq_false, if_false]; exact bits_run (by simp) w, fun ρ => by rw [bitsI_eq (by simp)]; simp only [VRel]⟩
  case xor => subst h; exact ⟨_, by simp only [binOp, ne_eq, not_true_eq_false, if_false]; exact bits_run (by simp) w, fun ρ => by rw [bitsI_eq (by simp)]; simp only [VRel]⟩
  case andNot => subst h; exact ⟨_, by simp only [binOp, ne_eq, not_true_eq_false, if_false]; exact bits_run (by simp) w, fun ρ => by rw [bitsI_eq (by simp)]; simp only [VRel]⟩
  case shl => exact absurd rfl hs
  case shr => exact absurd rfl hs'
end Go.Am
