/-
  The abstract machine against the model: one operation.
-/
import Derived.Test.YtpgmahedcpepkaaGreatDoorAmRange
import Derived.Laws.BytesString
import Derived.Laws.BytesArg
namespace Go.Am
open Go
variable {Λ : LB}

/-- An operation's run bears what the machine says of it. -/
def OpOk (Λ : LB) (P : Program) (ρ : Rho) (S : AS) (w : World) (s : Sem Next) (v : AV) (S' : AS) : Prop :=
  ∃ nx x ρ' w', s.run P w = .ok nx w' ∧ nextVal nx = some x ∧ VRel ρ' v x ∧ R Λ ρ' S' w' ∧ Kp ρ S w ρ' S' w'

theorem OpOk.sem {P : Program} {ρ : Rho} {S S' : AS} {w : World} {s : Sem Value} {v : AV} (h : SemOk Λ P ρ S w s v S') : OpOk Λ P ρ S w (do pure (.value (← s))) v S' := by
  obtain ⟨x, ρ', w', r1, r2, r3, r4⟩ := h
  exact ⟨.value x, x, ρ', w', by simp only [Sem.run_bind, r1, Result.andThen_ok, Sem.run_pure], rfl, r2, r3, r4⟩
/-- What only reckons, or reads. -/
theorem OpOk.still {P : Program} {ρ : Rho} {S : AS} {w : World} {s : Sem Value} {v : AV} (hR : R Λ ρ S w) (h : ∃ z, s.run P w = .ok z w ∧ VRel ρ v z) : OpOk Λ P ρ S w (do pure (.value (← s))) v S := by
  obtain ⟨z, r1, r2⟩ := h
  exact OpOk.sem ⟨z, ρ, w, r1, r2, hR, Kp.refl _ _ _⟩
theorem OpOk.val {P : Program} {ρ : Rho} {S : AS} {w : World} {x : Value} {v : AV} (hR : R Λ ρ S w) (h : VRel ρ v x) : OpOk Λ P ρ S w (pure (.value x)) v S :=
  ⟨.value x, x, ρ, w, rfl, rfl, h, hR, Kp.refl _ _ _⟩

theorem val?_eq {v : Option AV} {S S' : AS} {n : Nat} {u : AV} (h : val? v S n = .val u S') : v = some u ∧ S' = S := by
  cases v with
  | none => simp [val?] at h
  | some x => simp only [val?, AR.val.injEq] at h; exact ⟨by rw [h.1], h.2.symm⟩
theorem vals?_eq {v : Option (AV × AS)} {S' : AS} {n : Nat} {u : AV} (h : vals? v n = .val u S') : v = some (u, S') := by
  cases v with
  | none => simp [vals?] at h
  | some x => obtain ⟨a, b⟩ := x; simp only [vals?, AR.val.injEq] at h; rw [h.1, h.2]

theorem bool_rel {ρ : Rho} {x : AV} {v : Value} {b : Bool} (h : x = .bool b) (hv : VRel ρ x v) : v = .bool b := by subst h; simpa [VRel] using hv

theorem load_var {P : Program} {cx : Cx} (hcx : CxOk Λ P cx) {ρ : Rho} {S : AS} {w : World} (hR : R Λ ρ S w) {t : TypeId} {id g off lim : Nat} {x' : Value} (hx : VRel ρ (.ptr id g off lim) x') :
    (∀ n cs, aggOf cx t = some true → szOf cx t = some n → rd S id g off n lim = some cs → ∃ z, (Instr.loadAt t x').run P w = .ok z w ∧ VRel ρ (.agg cs) z) ∧
    (∀ v, aggOf cx t = some false → rd S id g off 1 lim = some [v] → ∃ z, (Instr.loadAt t x').run P w = .ok z w ∧ VRel ρ v z) := by
  simp only [VRel] at hx
  obtain ⟨pl, p1, p2, rfl⟩ := hx
  constructor
  · intro n cs ha hs hr
    obtain ⟨arr, q1, q2, q3, q4, _⟩ := load_row (P := P) hR hr p1 p2
    exact ⟨.agg arr, by simp only [Instr.loadAt, Instr.sureAddr, loadVar, Sem.run_bind, Sem.run_pure, Result.andThen_ok, run_agg hcx ha, if_true, run_sz hcx hs, q1], by simp only [VRel]; exact ⟨arr, rfl, q3, q4⟩⟩
  · intro v ha hr
    obtain ⟨arr, q1, q2, q3, q4, q5, q6⟩ := load_row (P := P) hR hr p1 p2
    obtain ⟨z, hz, hz2⟩ := q6 0 (by omega)
    refine ⟨z, ?_, ?_⟩
    · simp only [Nat.add_zero] at hz
      simp only [Instr.loadAt, Instr.sureAddr, loadVar, Sem.run_bind, Sem.run_pure, Result.andThen_ok, run_agg hcx ha, Bool.false_eq_true, if_false, run_load, hz]
    · obtain ⟨y, hy, hr'⟩ := q3.get (i := 0) (x := v) rfl
      rw [hz2] at hy; cases hy; exact hr'

theorem bytes_back : ∀ (cs : List AV) (l : List Nat) (arr : List Value) (ρ : Rho), bytesL cs = some l → LRel ρ cs arr →
    arr = (l.map Int.ofNat).map (Value.int .u8) ∧ ∀ n, n ∈ l → n < 256 := by
  intro cs
  induction cs with
  | nil => intro l arr ρ h hr; simp only [LRel] at hr; have h' : some [] = some l := h; cases h'; exact ⟨hr, fun n hn => by cases hn⟩
  | cons c cs ih =>
    intro l arr ρ h hr
    simp only [LRel] at hr
    obtain ⟨y, ys, rfl, hy, hys⟩ := hr
    have h' : bytesStep c (bytesL cs) = some l := h
    unfold bytesStep at h'
    split at h'
    · rename_i n l' hl'
      rw [nblt] at h'
      by_cases hn : n < 256
      · rw [decide_eq_true hn] at h'
        simp only [cond_true, Option.some.injEq] at h'
        subst h'
        obtain ⟨i1, i2⟩ := ih l' ys ρ hl' hys
        simp only [VRel] at hy
        rw [i1, hy]
        exact ⟨rfl, fun m hm => by cases hm with | head => exact hn | tail _ h => exact i2 m h⟩
      · rw [decide_eq_false hn] at h'; cases h'
    · cases h'

theorem str_of_bytes (l : List Nat) (h : ∀ n, n ∈ l → n < 256) : ((l.map Int.ofNat).foldl (fun r n => r.push (UInt8.ofNat n.toNat)) ByteArray.empty).data.toList.map UInt8.toNat = l := by
  rw [foldl_push_bytes]
  simp only [List.map_map]
  have e : (ByteArray.empty.data ++ (l.map ((fun n : Int => UInt8.ofNat n.toNat) ∘ Int.ofNat)).toArray).toList = l.map fun n => UInt8.ofNat n := by
    simp [Function.comp]
  rw [e, List.map_map]
  have : ∀ n, n ∈ l → (UInt8.toNat ∘ fun n => UInt8.ofNat n) n = n := fun n hn => by
    simp only [Function.comp, UInt8.toNat_ofNat']
    exact Nat.mod_eq_of_lt (h n hn)
  rw [List.map_congr_left this]; simp

/-- '[]byte(s)'. -/
theorem s2b_run {P : Program} {ρ : Rho} {S : AS} {w : World} (hR : R Λ ρ S w) {e : TypeId} {b : ByteArray} {s : List Nat} (hb : b.data.toList.map UInt8.toNat = s) :
    SemOk Λ P ρ S w (Conv.stringToBytes e b) (.slice S.next 0 0 s.length s.length 1 none) ⟨S.h.set S.next (.row (mapL (fun n => AV.int .u8 (.ofNat n)) s) 0 0 true e), Nat.succ S.next⟩ := by
  let q : Question := .appendCap b.size 0 e
  let c := q.cut (w.tape w.drawn q)
  have hge : b.size ≤ c := Nat.le_add_right _ _
  let C : Array Value := b.data.map (fun x => Value.int .u8 x.toNat) ++ Array.replicate (c - b.size) (.int .u8 0)
  have hCs : C.size = c := by simp [C]; have : b.data.size = b.size := rfl; omega
  let w' : World := { w with drawn := w.drawn + 1, heap := w.heap.push (.cells C e (c, c + 1)) }
  have hsz := size_str hb
  have hcells : mapL (fun n => AV.int .u8 (.ofNat n)) s = b.data.toList.map fun x => AV.int .u8 (x.toNat : Int) := by
    rw [mapL_eq, ← hb, List.map_map]; rfl
  have hlen : (mapL (fun n => AV.int .u8 (.ofNat n)) s).length = s.length := by rw [mapL_eq]; simp
  have hrel : Cells ρ (mapL (fun n => AV.int .u8 (.ofNat n)) s) (C.toList.take (mapL (fun n => AV.int .u8 (.ofNat n)) s).length) := by
    have e1 : C.toList.take (mapL (fun n => AV.int .u8 (.ofNat n)) s).length = b.data.toList.map fun x => Value.int .u8 (x.toNat : Int) := by
      rw [hlen, ← hsz]
      simp only [C, Array.toList_append, Array.toList_map]
      rw [List.take_append_of_le_length (by simp), List.take_of_length_le (by simp)]
    rw [e1, hcells]
    refine ⟨LRel.map _ _ (fun x => by simp [VRel]) _, fun x hx => ?_⟩
    obtain ⟨y, _, rfl⟩ := List.mem_map.1 hx
    rfl
  have hgrew : Grew (.cells C e (c, c + 1)) w w' := ⟨⟨rfl, rfl, rfl⟩, rfl⟩
  have hones : OnesC C := by
    refine OnesC.of fun v hv => ?_
    simp only [C, Array.toList_append, Array.toList_map, List.mem_append, List.mem_map, Array.toList_replicate, List.mem_replicate] at hv
    rcases hv with ⟨x, _, rfl⟩ | hv
    · rfl
    · obtain ⟨_, rfl⟩ := hv; rfl
  obtain ⟨ρ', pl, p1, p2, p3, p4, p5, p6, p7⟩ := hR.newRowF (frz := true) hgrew (fun h => by cases h) hrel.1 (by rw [hlen, hCs]; omega) hones
  refine ⟨.slice (some ⟨w.heap.size, 0, none⟩) s.length c, ρ', w', ?_, ?_, p6, p7⟩
  · have hch : (choose (.appendCap b.size 0 e)).run P w = .ok c { w with drawn := w.drawn + 1 } := by rw [run_choose]; rfl
    unfold Conv.stringToBytes
    simp only [Sem.run_bind, hch, Result.andThen_ok, Go.newRow, run_newObj, Sem.run_pure, markStringish, run_shape]
    have hsh : ({ w with drawn := w.drawn + 1, heap := w.heap.push (.cells C e) } : World).shape? w.heap.size = some (e, c) := by
      simp [World.shape?, hCs]
    have hfz : ({ w with drawn := w.drawn + 1, heap := w.heap.push (.cells C e) } : World).freeze { block := w.heap.size, off := c } 1 = w' := by
      simp only [World.freeze, Nat.one_ne_zero, if_false, w']
      congr 1
      apply Array.ext_getElem?
      intro i
      rw [Array.getElem?_modify]
      by_cases hi : w.heap.size = i
      · subst hi; simp
      · rw [if_neg hi, Array.getElem?_push, Array.getElem?_push, if_neg (Ne.symm hi), if_neg (Ne.symm hi)]
    simp only [C] at hsh hfz
    rw [hsh]
    simp only [run_freeze, Result.andThen_ok]
    rw [hfz, hsz]
  · exact VRel.slice_mk pl c p1 (by rw [p4, hlen]; exact Nat.le_refl _) (by omega) (by decide) (by omega) (.inl ⟨by rw [p2, p3], by rw [p3, p5, hCs]; omega, fun k hk => by cases hk⟩)

theorem info_of_sz {cx : Cx} {t : TypeId} {n : Nat} (h : szOf cx t = some n) : ∃ i, cx.tys.get t = some i ∧ i.size = n := by
  unfold szOf at h
  cases hi : cx.tys.get t with
  | none => simp [hi] at h
  | some i => simp only [hi, Option.some.injEq] at h; exact ⟨i, rfl, h⟩

theorem bytes_str (l : List Nat) (h : ∀ n, n ∈ l → n < 256) : (l.map fun n => UInt8.ofNat n).map UInt8.toNat = l := by
  rw [List.map_map]
  have : ∀ n, n ∈ l → (UInt8.toNat ∘ fun n => UInt8.ofNat n) n = n := fun n hn => by
    simp only [Function.comp, UInt8.toNat_ofNat']
    exact Nat.mod_eq_of_lt (h n hn)
  rw [List.map_congr_left this]; simp

theorem ustr_def (ts : Array TypeId) (ty : TypeId) : ∃ m1 m2 m3 m4 m5 : String, ∀ (p : Option Addr) (len : Value), Builtin.unsafeString_ ts ty #[.pointer p, len] = (do
      let n ← asInt len
      let some pt := ts[0]? | stuck m1
      if n < 0 then runtimePanic (.error m2)
      if n > IntKind.i64.max then unsupported (.unsafePointer m3)
      match p with
      | none =>
        if n = 0 then pure (.string .empty)
        else runtimePanic (.error m4)
      | some a =>
        if n = 0 then pure (.string .empty)
        else if ← variablesAt a (← elemOf pt) n.toNat then do
          let s ← loadBytes a .empty n.toNat
          freeze a n.toNat
          pure (.string s)
        else unsupported (.unsafePointer m5)) := ⟨_, _, _, _, _, fun _ _ => rfl⟩

theorem ptr_shape {ρ : Rho} {S : AS} {w : World} (hR : R Λ ρ S w) {id g off lim : Nat} {cells : List AV} {low top : Nat} {frz : Bool} {ty : TypeId} (hob : S.h.get id = some (.row cells low top frz ty))
    (h1 : low ≤ g) (h2 : g ≤ top) {pl : Pl} (hp : ρ id g = some pl) (hl : lim ≤ pl.n) (ho : off < lim) : ∃ N, w.shape? pl.b = some (ty, N) ∧ pl.base + off < N := by
  obtain ⟨_, h3, _⟩ := hR.objs id _ hob
  obtain ⟨pl', C, fr, g1, g2, g3, g4, g5, g6, g7, g8, g9⟩ := h3 g h1 h2
  rw [hp] at g1; cases g1
  exact ⟨C.size, by simp [World.shape?, g2], by omega⟩

theorem ustrV_run {P : Program} {cx : Cx} (hcx : CxOk Λ P cx) {ρ : Rho} {S S' : AS} {w : World} (hR : R Λ ρ S w) {ts : Array TypeId} {t ty : TypeId} {p v : AV} {p' : Value} {n : Nat} {k : IntKind}
    (h : ustrV cx S t p n = some (v, S')) (ht : ts[0]? = some t) (hp : VRel ρ p p') :
    ∃ z w', (Builtin.unsafeString_ ts ty #[p', .int k (.ofNat n)]).run P w = .ok z w' ∧ VRel ρ v z ∧ R Λ ρ S' w' ∧ Kp ρ S w ρ S' w' := by
  have hmax : IntKind.i64.max = 9223372036854775807 := rfl
  obtain ⟨m1, m2, m3, m4, m5, ustr⟩ := ustr_def ts ty
  unfold ustrV at h
  cases n with
  | zero =>
    simp only [] at h
    cases p <;> simp only [reduceCtorEq] at h
    case nilp =>
      cases h
      simp only [VRel] at hp
      subst hp
      refine ⟨.string .empty, w, ?_, by simp only [VRel]; exact ⟨_, rfl, rfl⟩, hR, Kp.refl _ _ _⟩
      rw [ustr]
      simp [asInt, asIntOf, ht, hmax]
    case ptr id g off lim =>
      cases h
      simp only [VRel] at hp
      obtain ⟨pl, p1, p2, rfl⟩ := hp
      refine ⟨.string .empty, w, ?_, by simp only [VRel]; exact ⟨_, rfl, rfl⟩, hR, Kp.refl _ _ _⟩
      rw [ustr]
      simp [asInt, asIntOf, ht, hmax]
  | succ m =>
    simp only [] at h
    split at h
    · rename_i e id g off lim hu
      split at h
      · rename_i cells low top frz rty hue hs hob
        rw [nbeq, nble] at h
        cases hbb : (decide (rty = e) && decide (m + 1 ≤ 4611686018427387904) && mayFrz frz low) with
        | false => rw [hbb] at h; cases h
        | true =>
          rw [hbb] at h
          simp only [Bool.and_eq_true, decide_eq_true_eq] at hbb
          obtain ⟨⟨hte, h63'⟩, hmf⟩ := hbb
          subst hte
          simp only [cond_true] at h
          cases hr : rd S id g off (m + 1) lim with
          | none => rw [hr] at h; cases h
          | some cs =>
            rw [hr] at h
            simp only [] at h
            cases hb : bytesL cs with
            | none => rw [hb] at h; cases h
            | some l =>
              rw [hb] at h
              simp only [Option.some.injEq, Prod.mk.injEq] at h
              obtain ⟨rfl, rfl⟩ := h
              simp only [VRel] at hp
              obtain ⟨pl, p1, p2, rfl⟩ := hp
              obtain ⟨arr, q1, q2, q3, q4, q5, q6⟩ := load_row (P := P) hR hr p1 p2
              obtain ⟨b1, b2⟩ := bytes_back cs l arr.toList ρ hb q3
              have hll : l.length = m + 1 := by
                have := congrArg List.length b1
                simp at this
                omega
              have hrd := hr
              unfold rd at hrd
              rw [hob] at hrd
              simp only [nble, Nat.add_eq] at hrd
              cases hcc : (decide (low ≤ g) && decide (g ≤ top) && decide (off + (m + 1) ≤ lim)) with
              | false => rw [hcc] at hrd; cases hrd
              | true =>
                simp only [Bool.and_eq_true, decide_eq_true_eq] at hcc
                obtain ⟨⟨c1, c2⟩, c3⟩ := hcc
                obtain ⟨_, h2, _⟩ := hR.objs id _ hob
                obtain ⟨pl', C, fr, g1, g2, g3, g4, g5, g6, g7, g8, g9⟩ := h2 g c1 c2
                rw [p1] at g1; cases g1
                have hsh : w.shape? pl.b = some (rty, C.size) := by simp [World.shape?, g2]
                have hcell := cellsOf_sz hcx hs
                let L : List UInt8 := l.map fun n => UInt8.ofNat n
                have hLl : L.length = m + 1 := by simp [L, hll]
                have hat : ∀ j x, L[j]? = some x → w.cell? ((⟨pl.b, pl.base + off, none⟩ : Addr).add j) = some (.int .u8 x.toNat) := by
                  intro j x hx
                  have hj : j < m + 1 := by
                    rcases Nat.lt_or_ge j (m + 1) with h0 | h0
                    · exact h0
                    · rw [List.getElem?_eq_none (by omega)] at hx; cases hx
                  obtain ⟨v, v1, v2⟩ := q6 j hj
                  rw [Addr_add, v1, ← v2, b1]
                  simp only [L, List.getElem?_map] at hx ⊢
                  cases hlj : l[j]? with
                  | none => rw [hlj] at hx; cases hx
                  | some y =>
                    rw [hlj] at hx
                    simp only [Option.map_some, Option.some.injEq] at hx ⊢
                    subst hx
                    have := b2 y (List.mem_of_getElem? hlj)
                    simp only [UInt8.toNat_ofNat', Nat.mod_eq_of_lt this]
                    rfl
                have hlb := Lib.run_loadBytes (P := P) w L ⟨pl.b, pl.base + off, none⟩ .empty hat
                have hlies := liesAt_one (P := P) hcell C.size (pl.base + off) (m + 1) (by omega)
                obtain ⟨f1, f2⟩ := hR.freeze hob p1 (off := pl.base + off) (Nat.succ_ne_zero m) (mayFrz_ok hmf)
                refine ⟨.string ⟨L.toArray⟩, _, ?_, ?_, f1, f2⟩
                · rw [hLl] at hlb
                  rw [ustr]
                  have h63 : ¬ ((m : Int) + 1 > 9223372036854775807) := by omega
                  have hneg : ¬ ((m : Int) + 1 < 0) := by omega
                  have hz : ¬ ((m : Int) + 1 = 0) := by omega
                  have htn : ((m : Int) + 1).toNat = m + 1 := by omega
                  simp only [asInt, asIntOf, Sem.run_bind, Sem.run_pure, Result.andThen_ok, ht, hmax, Int.ofNat_eq_natCast, Int.natCast_add, Int.cast_ofNat_Int, if_neg hneg, if_neg h63, if_neg hz, htn]
                  simp only [elemOf, run_und hcx hu, Sem.run_bind, Sem.run_pure, Result.andThen_ok, variablesAt, run_program, run_shape, hsh]
                  rw [hcell, Nat.div_one, hlies]
                  simp only [if_true, Sem.run_bind, hlb, Result.andThen_ok, run_freeze, Sem.run_pure]
                  simp
                · simp only [VRel]
                  exact ⟨_, rfl, bytes_str l b2⟩
      · cases h
    · cases h

theorem aop_sound {P : Program} {cx : Cx} (hcx : CxOk Λ P cx) {ρ : Rho} {F : Fr} {S S' : AS} {w : World} {a : Act} (hR : R Λ ρ S w) (hF : FRel ρ F a) {o : Oper} {v : AV}
    (h : aop cx F S o = .val v S') : OpOk Λ P ρ S w (execOp a.eval o) v S' := by
  obtain ⟨dst, op, ty, pos, after, guard⟩ := o
  have fr : ∀ n, freshR (freshV cx F S.next op) S n = .val v S' → OpOk Λ P ρ S w (execOp a.eval ⟨dst, op, ty, pos, after, guard⟩) v S' := by
    intro n hh
    cases hf : freshV cx F S.next op with
    | none => simp [freshR, hf] at hh
    | some vo =>
      obtain ⟨u, obj⟩ := vo
      simp only [freshR, hf, AR.val.injEq] at hh
      obtain ⟨rfl, rfl⟩ := hh
      obtain ⟨s, e, hfo⟩ := fresh_run (P := P) hcx hF (o := ⟨dst, op, ty, pos, after, guard⟩) hf w
      rw [e]
      exact OpOk.sem (hfo.sem hR)
  cases op <;> simp only [aop, reduceCtorEq] at h
  case move x => cases h; exact OpOk.val hR (hF.eval x)
  case assign x => cases h; exact OpOk.val hR (hF.eval x)
  case pick c x y =>
    split at h
    · rename_i hc
      cases h
      have := bool_rel hc (hF.eval c)
      exact ⟨.value (a.eval x), a.eval x, ρ, w, by simp [execOp, this, asBool], rfl, hF.eval x, hR, Kp.refl _ _ _⟩
    · rename_i hc
      cases h
      have := bool_rel hc (hF.eval c)
      exact ⟨.value (a.eval y), a.eval y, ρ, w, by simp [execOp, this, asBool], rfl, hF.eval y, hR, Kp.refl _ _ _⟩
    · cases h
  case alloc e => exact fr _ h
  case box t x => exact fr _ h
  case buildSlice t n parts => exact fr _ h
  case makeMap t r => exact fr _ h
  case makeSlice t l c => exact fr _ h
  case build t parts =>
    obtain ⟨h1, rfl⟩ := val?_eq h
    exact OpOk.still hR (buildV_run hcx hF h1 w)
  case load t x =>
    split at h
    · rename_i id g off lim he
      have hx := hF.eval x
      rw [he] at hx
      obtain ⟨l1, l2⟩ := load_var (t := t) hcx hR hx
      split at h
      · rename_i ha
        split at h
        · rename_i n hs
          split at h
          · rename_i cs hr
            cases h
            exact OpOk.still hR (l1 n cs ha hs hr)
          · cases h
        · cases h
      · rename_i ha
        split at h
        · rename_i u hr
          cases h
          exact OpOk.still hR (l2 _ ha hr)
        · cases h
      · cases h
    · rename_i g off he
      have hx := hF.eval x
      rw [he] at hx
      simp only [VRel] at hx
      cases hg : cx.globs.get g with
      | none => rw [hg] at h; cases h
      | some cs =>
        rw [hg] at h
        obtain ⟨h1, rfl⟩ := val?_eq h
        have := glob_load (P := P) hcx hR hg h1
        rw [← hx] at this
        exact OpOk.still hR this
    · cases h
  case store t x y =>
    split at h
    · rename_i id g off lim cs n he hc hs
      rw [nbeq, lenL_eq] at h
      by_cases hn : cs.length = n
      · rw [decide_eq_true hn] at h
        simp only [cond_true] at h
        split at h
        · rename_i S1 hwr
          cases h
          have hx := hF.eval x
          rw [he] at hx
          simp only [VRel] at hx
          obtain ⟨pl, p1, p2, hxe⟩ := hx
          have hcells := cellsOf_rel hc (hF.eval y)
          obtain ⟨w', r1, r2, r3⟩ := store_row (P := P) hR hwr p1 p2 hcells.1 hcells.2
          have hsz : (a.eval y).cells.size = n := by have := hcells.length; simp at this; omega
          refine ⟨.skip, undef, ρ, w', ?_, rfl, undef_rel ρ, r2, r3⟩
          simp only [execOp, Instr.storeAt, hxe, Instr.sureAddr, storeVar, Sem.run_bind, Sem.run_pure, Result.andThen_ok, run_sz hcx hs]
          rw [if_neg (by simp [hsz])]
          simp only [r1, Result.andThen_ok]
        · cases h
      · rw [decide_eq_false hn] at h; cases h
    · cases h
  case nilCheck x =>
    have hx := hF.eval x
    split at h <;> (try (cases h; done)) <;> rename_i he <;> cases h <;> rw [he] at hx
    · obtain ⟨pl, p1, p2, e⟩ := (by simpa only [VRel] using hx : ∃ pl, _)
      have : execOp a.eval ⟨dst, .nilCheck x, ty, pos, after, guard⟩ = pure (.value (a.eval x)) := by simp only [execOp, e]
      rw [this]; exact OpOk.val hR hx
    · have e := (by simpa only [VRel] using hx : a.eval x = _)
      have : execOp a.eval ⟨dst, .nilCheck x, ty, pos, after, guard⟩ = pure (.value (a.eval x)) := by simp only [execOp, e]
      rw [this]; exact OpOk.val hR hx
    · obtain ⟨p, q, e, _⟩ := (by simpa only [VRel] using hx : ∃ p q, _)
      have : execOp a.eval ⟨dst, .nilCheck x, ty, pos, after, guard⟩ = pure (.value (a.eval x)) := by simp only [execOp, e]
      rw [this]; exact OpOk.val hR hx
    · obtain ⟨p, q, e, _⟩ := slice_val hx
      have : execOp a.eval ⟨dst, .nilCheck x, ty, pos, after, guard⟩ = pure (.value (a.eval x)) := by simp only [execOp, e]
      rw [this]; exact OpOk.val hR hx
    · obtain ⟨p, q, e⟩ := (by simpa only [VRel] using hx : ∃ p, _)
      have : execOp a.eval ⟨dst, .nilCheck x, ty, pos, after, guard⟩ = pure (.value (a.eval x)) := by simp only [execOp, e]
      rw [this]; exact OpOk.val hR hx
    · obtain ⟨p, q, e⟩ := (by simpa only [VRel] using hx : ∃ p, _)
      have : execOp a.eval ⟨dst, .nilCheck x, ty, pos, after, guard⟩ = pure (.value (a.eval x)) := by simp only [execOp, e, OK.val]
      rw [this]; exact OpOk.val hR hx
    · obtain ⟨p, q, e⟩ := (by simpa only [VRel] using hx : ∃ p, _)
      have : execOp a.eval ⟨dst, .nilCheck x, ty, pos, after, guard⟩ = pure (.value (a.eval x)) := by simp only [execOp, e, OK.val]
      rw [this]; exact OpOk.val hR hx
  case binOp op t x y yt =>
    obtain ⟨h1, rfl⟩ := val?_eq h
    refine OpOk.still (s := do eqGuard op t x y (a.eval x) (a.eval y); binOp op t (a.eval x) (a.eval y)) hR (binV_run hcx h1 ?_ (hF.eval x) (hF.eval y) w)
    cases x <;> cases y <;> rfl
  case unOp op t x =>
    obtain ⟨h1, rfl⟩ := val?_eq h
    exact OpOk.still hR (unV_run h1 (hF.eval x) w)
  case convert src dst x =>
    have hx := hF.eval x
    split at h
    · rename_i ds k k0 n hu1 hu2 he
      cases h
      rw [he] at hx
      simp only [VRel] at hx
      refine OpOk.still hR ⟨.int k (k.wrap n), ?_, by rw [mkI_eq]; simp [VRel]⟩
      simp only [convert, Sem.run_bind, run_und hcx hu1, run_und hcx hu2, Result.andThen_ok, hx]
      rfl
    · rename_i ds s hu1 hu2 he
      cases h
      rw [he] at hx
      have hx' := hx
      simp only [VRel] at hx'
      obtain ⟨b, hb, _⟩ := hx'
      refine OpOk.still hR ⟨a.eval x, ?_, hx⟩
      simp only [convert, Sem.run_bind, run_und hcx hu1, run_und hcx hu2, Result.andThen_ok, hb]
      rfl
    · rename_i ds e s hu1 hu2 he
      split at h
      · rename_i hu3
        cases h
        rw [he] at hx
        simp only [VRel] at hx
        obtain ⟨b, hb, hbs⟩ := hx
        refine OpOk.sem ?_
        obtain ⟨z, ρ', w', r1, r2, r3, r4⟩ := s2b_run (P := P) (e := e) hR hbs
        refine ⟨z, ρ', w', ?_, r2, r3, r4⟩
        simp only [convert, Sem.run_bind, run_und hcx hu1, run_und hcx hu2, Result.andThen_ok, hb]
        simp only [run_und hcx hu3, Result.andThen_ok]
        exact r1
      · cases h
    · rename_i xx e hu1 hu2 hno
      have hconv : ∀ (ad : Option Addr) (l c : Nat), und cx e = some (.int .u8) → (convert src dst (.slice ad l c)).run P w = (Conv.bytesToString (.slice ad l c)).run P w :=
        fun ad l c hu3 => run_convert_bytes_string w src dst e ad l c (und_ok hcx hu1) (und_ok hcx hu3) (und_ok hcx hu2)
      split at h
      · rename_i hu3 he
        cases h
        rw [he] at hx
        simp only [VRel] at hx
        refine OpOk.still hR ⟨.string .empty, ?_, by simp only [VRel]; exact ⟨_, rfl, rfl⟩⟩
        rw [hx, hconv _ _ _ hu3]; rfl
      · rename_i id g off len lim cap hu3 he
        rw [he] at hx
        obtain ⟨ad, c, e1, hlc, _⟩ := slice_val hx
        cases len with
        | zero =>
          cases h
          refine OpOk.still hR ⟨.string .empty, ?_, by simp only [VRel]; exact ⟨_, rfl, rfl⟩⟩
          rw [e1, hconv _ _ _ hu3, run_bytesToString w ad 0 c [] rfl]; rfl
        | succ l =>
          simp only [] at h
          split at h
          · rename_i cs hr
            split at h
            · rename_i bs hbs
              cases h
              simp only [VRel] at hx
              obtain ⟨pl, c', p1, p2, p3, p4, p5, hh⟩ := hx
              rcases hh with ⟨e2, _⟩ | ⟨e2, _⟩
              · rw [e1] at e2; cases e2
                obtain ⟨arr, q1, q2, q3, q4, _⟩ := load_row (P := P) hR hr p1 p2
                obtain ⟨b1, b2⟩ := bytes_back cs bs arr.toList ρ hbs q3
                have harr : arr = ((bs.map Int.ofNat).map (Value.int .u8)).toArray := Array.ext' (by simpa using b1)
                rw [harr] at q1
                refine OpOk.still hR ⟨.string ((bs.map Int.ofNat).foldl (fun r n => r.push (UInt8.ofNat n.toNat)) ByteArray.empty), ?_, ?_⟩
                · rw [e1, hconv _ _ _ hu3]; exact run_bytesToString w _ (l + 1) c _ q1
                · simp only [VRel]; exact ⟨_, rfl, str_of_bytes bs b2⟩
              · omega
            · cases h
          · cases h
      · cases h
    · rename_i e0 e id g off len lim sz cap hu1 hu2 he
      rw [nbeq, nblt] at h
      cases hc0 : (decide (src = dst) && decide (0 < len)) with
      | false => rw [hc0] at h; cases h
      | true =>
      rw [hc0] at h
      simp only [cond_true] at h
      simp only [Bool.and_eq_true, decide_eq_true_eq] at hc0
      obtain ⟨hsd, hlen⟩ := hc0
      split at h
      · rename_i cells low top frz rty hu3 hob
        rw [nble, nble] at h
        cases hc : (decide (low ≤ g) && decide (g ≤ top) && mayFrz frz low) with
        | false => rw [hc] at h; cases h
        | true =>
          rw [hc] at h
          simp only [cond_true, AR.val.injEq] at h
          obtain ⟨rfl, rfl⟩ := h
          simp only [Bool.and_eq_true, decide_eq_true_eq] at hc
          obtain ⟨hc, hmf⟩ := hc
          rw [he] at hx
          have hx' := hx
          simp only [VRel] at hx'
          obtain ⟨pl, c, p1, p2, p3, p4, p5, hh⟩ := hx'
          rcases hh with ⟨e2, _⟩ | ⟨e2, _⟩
          · obtain ⟨_, hgs, _⟩ := hR.objs id _ hob
            obtain ⟨pl', C, fr, g1, g2, _⟩ := hgs g hc.1 hc.2
            rw [p1] at g1; cases g1
            have hsh : w.shape? pl.b = some (rty, C.size) := by simp [World.shape?, g2]
            obtain ⟨t1, t2⟩ := hR.freeze (off := C.size) (n := 1) hob p1 (by omega) (mayFrz_ok hmf)
            refine OpOk.sem ⟨a.eval x, ρ, _, ?_, hx, t1, t2⟩
            rw [e2]
            simp only [convert, Sem.run_bind, run_und hcx hu1, run_und hcx hu2, Result.andThen_ok]
            simp only [run_und hcx hu3, Result.andThen_ok, hsd, beq_self_eq_true, markStringish, Sem.run_bind, run_shape, hsh, run_freeze, Sem.run_pure]
          · omega
      · cases h
    · rename_i e id g off lim hu1 hu2 he
      split at h
      · rename_i z cells low top frz rty hs hob
        rw [nblt, nble, nble] at h
        cases hc : (decide (off < lim) && decide (low ≤ g) && decide (g ≤ top)) with
        | false => rw [hc] at h; cases h
        | true =>
          rw [hc] at h
          simp only [cond_true, AR.val.injEq] at h
          obtain ⟨rfl, rfl⟩ := h
          simp only [Bool.and_eq_true, decide_eq_true_eq] at hc
          obtain ⟨⟨hlt, hc1⟩, hc2⟩ := hc
          rw [he] at hx
          have hx' := hx
          simp only [VRel] at hx'
          obtain ⟨pl, p1, p2, e1⟩ := hx'
          obtain ⟨N, hsh, hof⟩ := ptr_shape hR hob hc1 hc2 p1 p2 hlt
          refine OpOk.still hR ⟨a.eval x, ?_, hx⟩
          obtain ⟨i, hi, hiz⟩ := info_of_sz hs
          rw [e1]
          exact Lib.run_to_unsafe w ⟨pl.b, pl.base + off, none⟩ (und_ok hcx hu1) (und_ok hcx hu2) (hcx.tys _ _ hi) (by rw [hiz]; exact Nat.succ_ne_zero _) hsh hof
      · cases h
    · rename_i u id g off lim hu1 hu2 he
      split at h
      · rename_i z cells low top frz rty hs hob
        rw [nbeq, nble, nbeq] at h
        cases hc : (decide (rty = u) && decide (Nat.succ z ≤ lim) && decide (low = 0)) with
        | false => rw [hc] at h; cases h
        | true =>
          rw [hc] at h
          simp only [cond_true, AR.val.injEq] at h
          obtain ⟨rfl, rfl⟩ := h
          simp only [Bool.and_eq_true, decide_eq_true_eq] at hc
          obtain ⟨⟨rfl, hzl⟩, rfl⟩ := hc
          rw [he] at hx
          have hx' := hx
          simp only [VRel] at hx'
          obtain ⟨pl, p1, p2, e1⟩ := hx'
          obtain ⟨_, h2, _⟩ := hR.objs id _ hob
          obtain ⟨pl', C, fr, g1, g2, g3, g4, g5, g6, g7, g8, g9⟩ := h2 0 (Nat.le_refl _) (Nat.zero_le _)
          rw [p1] at g1; cases g1
          obtain ⟨i, hi, hiz⟩ := info_of_sz hs
          have hsh : w.shape? pl.b = some (rty, C.size) := by simp [World.shape?, g2]
          have hcell := cellsOf_sz hcx hs
          refine OpOk.still hR ⟨a.eval x, ?_, hx⟩
          rw [e1]
          refine Lib.run_from_unsafe w ⟨pl.b, pl.base + 0, none⟩ (und_ok hcx hu1) (und_ok hcx hu2) (hcx.tys _ _ hi) hsh ?_
          rw [g9.1 rfl]
          refine liesAt_head hcell (Nat.succ_ne_zero _) _ ?_
          rw [hcell]
          exact (Nat.le_div_iff_mul_le (Nat.succ_pos _)).2 (by omega)
      · cases h
    · cases h
  case makeInterface t x =>
    split at h
    · cases h
    · rename_i d hu hd
      cases h
      refine OpOk.still hR ⟨.iface t (a.eval x), ?_, by simp only [VRel]; exact ⟨_, rfl, hF.eval x⟩⟩
      simp only [Instr.makeInterface, Sem.run_bind, run_und hcx hd, Result.andThen_ok]
      cases d <;> first | rfl | exact absurd rfl (hu _)
    · cases h
  case makeFunc fn first captured =>
    cases h
    refine OpOk.still hR ⟨.func fn (first.map a.eval) (captured.map a.eval), rfl, ?_⟩
    simp only [VRel]
    exact ⟨_, _, rfl, args_rel hF first, args_rel hF captured⟩
  case slice t x lo hi mx =>
    obtain ⟨h1, rfl⟩ := val?_eq h
    exact OpOk.still hR (sliceV_run hcx hF h1 (hF.eval x) w)
  case fieldAddr s x f =>
    split at h
    · rename_i fs id g off lim hu he
      rw [nth_eq] at h
      split at h
      · rename_i fd hf
        split at h
        · rename_i z hs
          rw [forceN_eq] at h
          cases h
          have hx := hF.eval x
          rw [he] at hx
          simp only [VRel] at hx
          obtain ⟨pl, p1, p2, e⟩ := hx
          have hf' : fs[f]? = some fd := by rw [← Array.getElem?_toList]; exact hf
          refine OpOk.still hR ⟨.pointer (some ⟨pl.b, pl.base + (off + fd.offset), none⟩), ?_, by simp only [VRel]; exact ⟨pl, p1, p2, rfl⟩⟩
          simp only [Instr.fieldAt, Sem.run_bind, run_und hcx hu, Result.andThen_ok, hf', e, Instr.sureAddr, Sem.run_pure, fieldPlace, run_sz hcx hs]
          rw [if_neg (Nat.succ_ne_zero z), Addr_add, Nat.add_assoc]; rfl
        · cases h
      · cases h
    · cases h
  case field t x f =>
    split at h
    · rename_i fs cs hu he
      rw [nth_eq] at h
      split at h
      · rename_i fd hf
        obtain ⟨h1, rfl⟩ := val?_eq h
        have hx := hF.eval x
        rw [he] at hx
        simp only [VRel] at hx
        obtain ⟨arr, e, p, q⟩ := hx
        have hf' : fs[f]? = some fd := by rw [← Array.getElem?_toList]; exact hf
        obtain ⟨z, r1, r2⟩ := part_run hcx h1 p q w
        refine OpOk.still hR ⟨z, ?_, r2⟩
        simp only [Instr.field, Sem.run_bind, run_und hcx hu, Result.andThen_ok, hf', e, asAgg, Sem.run_pure, r1]
      · cases h
    · cases h
  case indexAddr t x ix =>
    split at h
    · rename_i e id g off len lim sz cap i hu he hi
      split at h
      · rename_i z hs
        rw [nbeq, nblt, forceN_eq] at h
        cases hc : (decide (z = sz) && decide (i < len)) with
        | false => simp [hc] at h
        | true =>
          simp only [hc, cond_true, AR.val.injEq] at h
          obtain ⟨rfl, rfl⟩ := h
          simp only [Bool.and_eq_true, decide_eq_true_eq] at hc
          obtain ⟨rfl, hlt⟩ := hc
          have hx := hF.eval x
          rw [he] at hx
          simp only [VRel] at hx
          obtain ⟨pl, c, p1, p2, p3, p4, p5, hh⟩ := hx
          obtain ⟨k, hk⟩ := natOf_rel hi (hF.eval ix)
          rcases hh with ⟨e1, _⟩ | ⟨e1, _⟩
          · refine OpOk.still hR ⟨.pointer (some ⟨pl.b, pl.base + (off + i * z), none⟩), ?_, by simp only [VRel]; exact ⟨pl, p1, p2, rfl⟩⟩
            have hin : (0 : Int) ≤ (i : Int) ∧ (i : Int) < (len : Int) := by omega
            simp only [Instr.indexAt, hk, asIntOf, Sem.run_bind, Sem.run_pure, run_und hcx hu, Result.andThen_ok, e1, if_pos hin, run_sz hcx hs, Int.toNat_natCast, Addr_add, Nat.add_assoc]
          · omega
      · cases h
    · rename_i n e id g off lim i hu he hi
      split at h
      · rename_i z hs
        rw [nblt, forceN_eq] at h
        by_cases hlt : i < n
        · rw [decide_eq_true hlt] at h
          simp only [cond_true, AR.val.injEq] at h
          obtain ⟨rfl, rfl⟩ := h
          have hx := hF.eval x
          rw [he] at hx
          simp only [VRel] at hx
          obtain ⟨pl, p1, p2, e1⟩ := hx
          obtain ⟨k, hk⟩ := natOf_rel hi (hF.eval ix)
          refine OpOk.still hR ⟨.pointer (some ⟨pl.b, pl.base + (off + i * z), none⟩), ?_, by simp only [VRel]; exact ⟨pl, p1, p2, rfl⟩⟩
          have hin : (0 : Int) ≤ (i : Int) ∧ (i : Int) < (n : Int) := by omega
          simp only [Instr.indexAt, hk, asIntOf, Sem.run_bind, Sem.run_pure, run_und hcx hu, Result.andThen_ok, e1, Instr.sureAddr, if_pos hin, run_sz hcx hs, Int.toNat_natCast, Addr_add, Nat.add_assoc]
        · rw [decide_eq_false hlt] at h; cases h
      · cases h
    · rename_i n e g off i hu he hi
      split at h
      · rename_i z hs
        rw [nblt, forceN_eq] at h
        by_cases hlt : i < n
        · rw [decide_eq_true hlt] at h
          simp only [cond_true, AR.val.injEq] at h
          obtain ⟨rfl, rfl⟩ := h
          have hx := hF.eval x
          rw [he] at hx
          simp only [VRel] at hx
          obtain ⟨k, hk⟩ := natOf_rel hi (hF.eval ix)
          refine OpOk.still hR ⟨.pointer (some ⟨g, off + i * z, none⟩), ?_, by simp only [VRel]; rfl⟩
          have hin : (0 : Int) ≤ (i : Int) ∧ (i : Int) < (n : Int) := by omega
          simp only [Instr.indexAt, hk, asIntOf, Sem.run_bind, Sem.run_pure, run_und hcx hu, Result.andThen_ok, hx, Instr.sureAddr, if_pos hin, run_sz hcx hs, Int.toNat_natCast, Addr_add]
        · rw [decide_eq_false hlt] at h; cases h
      · cases h
    · cases h
  case index t x ix =>
    split at h
    · rename_i s i hu he hi
      rw [nth_eq] at h
      split at h
      · rename_i n hn
        cases h
        have hx := hF.eval x
        rw [he] at hx
        simp only [VRel] at hx
        obtain ⟨b, e, hb⟩ := hx
        obtain ⟨k, hk⟩ := natOf_rel hi (hF.eval ix)
        rw [← hb, List.getElem?_map] at hn
        cases hbi : b.data.toList[i]? with
        | none => rw [hbi] at hn; cases hn
        | some c =>
          rw [hbi] at hn
          simp only [Option.map_some, Option.some.injEq] at hn
          subst hn
          have hlt : i < b.size := by
            rcases Nat.lt_or_ge i b.size with h0 | h0
            · exact h0
            · rw [List.getElem?_eq_none (show b.data.toList.length ≤ i from h0)] at hbi; cases hbi
          refine OpOk.still hR ⟨.int .u8 (c.toNat : Int), ?_, by simp [VRel]⟩
          have h0 : (0 : Int) ≤ (i : Int) := by omega
          have hg : b[i]? = some c := by
            rw [ByteArray.getElem?_lt' b i hlt]
            have : b.data.toList[i]? = some (b[i]) := by
              rw [List.getElem?_eq_getElem (show i < b.data.toList.length from hlt)]; rfl
            rw [hbi] at this; exact this.symm
          simp only [Instr.index, hk, asIntOf, Sem.run_bind, Sem.run_pure, run_und hcx hu, Result.andThen_ok, e, if_pos h0, Int.toNat_natCast, hg]
      · cases h
    · rename_i n e cs i hu he hi
      split at h
      · rename_i z hs
        rw [nblt] at h
        by_cases hlt : i < n
        · rw [decide_eq_true hlt] at h
          simp only [cond_true] at h
          obtain ⟨h1, rfl⟩ := val?_eq h
          have hx := hF.eval x
          rw [he] at hx
          simp only [VRel] at hx
          obtain ⟨arr, e1, p, q⟩ := hx
          obtain ⟨k, hk⟩ := natOf_rel hi (hF.eval ix)
          obtain ⟨zv, r1, r2⟩ := part_run hcx h1 p q w
          refine OpOk.still hR ⟨zv, ?_, r2⟩
          have hin : (0 : Int) ≤ (i : Int) ∧ (i : Int) < (n : Int) := by omega
          simp only [Nat.mul_eq] at r1
          simp only [Instr.index, hk, asIntOf, Sem.run_bind, Sem.run_pure, run_und hcx hu, Result.andThen_ok, e1, if_pos hin, run_sz hcx hs, Int.toNat_natCast, r1]
        · rw [decide_eq_false hlt] at h; cases h
      · cases h
    · cases h
  case lookup t x ix ok =>
    obtain ⟨h1, rfl⟩ := val?_eq h
    exact OpOk.still hR (lookupV_run hcx hR h1 (hF.eval x) (hF.eval ix))
  case mapUpdate t m k x =>
    obtain ⟨w', r1, rfl, r3, r4⟩ := updateV_run hcx hR (vals?_eq h) (hF.eval m) (hF.eval k) (hF.eval x)
    exact ⟨.skip, undef, ρ, w', by simp only [execOp, Sem.run_bind, r1, Result.andThen_ok, Sem.run_pure], rfl, undef_rel ρ, r3, r4⟩
  case insert t m k x =>
    obtain ⟨w', r1, rfl, r3, r4⟩ := updateV_run hcx hR (vals?_eq h) (hF.eval m) (hF.eval k) (hF.eval x)
    exact ⟨.skip, undef, ρ, w', by simp only [execOp, Sem.run_bind, r1, Result.andThen_ok, Sem.run_pure], rfl, undef_rel ρ, r3, r4⟩
  case mapEntry t m k => exact OpOk.sem (entryMV_run hcx hR (vals?_eq h) (hF.eval m) (hF.eval k))
  case entryStore t m k x =>
    obtain ⟨w', r1, rfl, r3, r4⟩ := entrySV_run (P := P) (t := t) hR (vals?_eq h) (hF.eval m) (hF.eval k) (hF.eval x)
    exact ⟨.skip, undef, ρ, w', by simp only [execOp, Sem.run_bind, r1, Result.andThen_ok, Sem.run_pure], rfl, undef_rel ρ, r3, r4⟩
  case range t x => exact OpOk.sem (rangeV_run hcx hR (vals?_eq h) (hF.eval x))
  case next x str => exact OpOk.sem (nextV_val (P := P) hR h (hF.eval x))
  case entry x =>
    obtain ⟨h1, rfl⟩ := val?_eq h
    exact OpOk.still hR (entryV_run hR h1 (hF.eval x))
  case panic x => split at h <;> cases h
  case typeAssert x xt t ok =>
    obtain ⟨h1, rfl⟩ := val?_eq h
    exact OpOk.still hR (assertV_run hcx h1 (hF.eval x))
  case extract x i =>
    split at h
    · rename_i vs he
      obtain ⟨h1, rfl⟩ := val?_eq h
      have hx := hF.eval x
      rw [he] at hx
      simp only [VRel] at hx
      obtain ⟨arr, e, hl⟩ := hx
      rw [nth_eq] at h1
      obtain ⟨y, hy, hyr⟩ := hl.get h1
      refine OpOk.still hR ⟨y, ?_, hyr⟩
      have hy' : arr[i]? = some y := by rw [← Array.getElem?_toList]; exact hy
      simp only [Instr.extract, e, hy', Sem.run_pure]
    · cases h
  case call c =>
    obtain ⟨callee, as, ats⟩ := c
    cases callee with
    | value f =>
      simp only [] at h
      unfold callV at h
      split at h
      · rename_i g first captured he
        cases hxt : cx.exts.get g with
        | none => rw [hxt] at h; cases h
        | some xt =>
          rw [hxt] at h
          have h1 := vals?_eq h
          have hf := hF.eval f
          rw [he] at hf
          simp only [VRel] at hf
          obtain ⟨p, q, e, hp, hq⟩ := hf
          simp only [appL_eq] at h1
          obtain ⟨z, ρ2, w2, r1, r2, r3, r4⟩ := extM_run hR hcx hxt h1 (args := p ++ as.map a.eval ++ q) (by
            simp only [Array.toList_append, List.append_assoc]
            exact hp.append ((args_rel hF as).append hq))
          refine ⟨.value z, z, ρ2, w2, ?_, rfl, r2, r3, r4⟩
          have hex : execOp a.eval ⟨dst, .call ⟨.value f, as, ats⟩, ty, pos, after, guard⟩ = callFunc g (p ++ as.map a.eval ++ q) := by
            simp only [execOp, resolve, e, Deferred.ofValue]; rfl
          rw [hex]; exact r1
      · cases h
      · cases h
    | invoke r m => cases h
    | builtin b =>
      simp only [] at h
      have hargs := args_rel hF as
      have hex : execOp a.eval ⟨dst, .call ⟨.builtin b, as, ats⟩, ty, pos, after, guard⟩ = builtin b ats ty (as.map fun | .const _ => true | _ => false) (as.map a.eval) := by
        simp only [execOp, resolve]; rfl
      rw [hex]
      unfold builtinV at h
      split at h
      · rename_i t ts' x xs ht ha
        split at h
        · rename_i n hn
          rw [forceN_eq] at h
          cases h
          rw [ha] at hargs
          simp only [LRel] at hargs
          obtain ⟨y, ys, hy, hyr, _⟩ := hargs
          have h0 : (as.map a.eval)[0]? = some y := by rw [← Array.getElem?_toList, hy]; rfl
          have t0 : ats[0]? = some t := by rw [← Array.getElem?_toList, ht]; rfl
          exact OpOk.still hR ⟨goInt n, lenV_run hcx hR hn t0 h0 hyr, by simp [VRel, goInt]⟩
        · cases h
      · rename_i t ts' x xs ht ha
        have t0 : ats[0]? = some t := by rw [← Array.getElem?_toList, ht]; rfl
        rw [ha] at hargs
        simp only [LRel] at hargs
        obtain ⟨y, ys, hy, hyr, _⟩ := hargs
        have h0 : (as.map a.eval)[0]? = some y := by rw [← Array.getElem?_toList, hy]; rfl
        have mk : ∀ (n : Nat), (Builtin.cap_ ats ty (as.map a.eval)).run P w = .ok (goInt n) w → OpOk Λ P ρ S w (builtin .cap ats ty (as.map fun | .const _ => true | _ => false) (as.map a.eval)) (.int .i64 (.ofNat n)) S :=
          fun n hr => OpOk.still hR ⟨goInt n, hr, by simp [VRel, goInt]⟩
        split at h
        · rename_i e hu
          cases h
          simp only [VRel] at hyr
          refine mk 0 ?_
          unfold Builtin.cap_
          simp only [t0, h0, Sem.run_bind, run_und hcx hu, Result.andThen_ok, hyr, Sem.run_pure]
        · rename_i e id g off len lim sz c hu
          cases h
          obtain ⟨ad, c', e1, _, hc⟩ := slice_val hyr
          obtain rfl := hc c rfl
          refine mk c' ?_
          unfold Builtin.cap_
          simp only [t0, h0, Sem.run_bind, run_und hcx hu, Result.andThen_ok, e1, Sem.run_pure]
        · rename_i n e hu
          cases h
          refine mk n ?_
          unfold Builtin.cap_
          simp only [t0, h0, Sem.run_bind, run_und hcx hu, Result.andThen_ok]
          cases y <;> rfl
        · cases h
      · rename_i t u ts' sA xA ht ha
        have t0 : ats[0]? = some t := by rw [← Array.getElem?_toList, ht]; rfl
        have t1 : ats[1]? = some u := by rw [← Array.getElem?_toList, ht]; rfl
        rw [ha] at hargs
        simp only [LRel] at hargs
        obtain ⟨y, _, hy, hyr, y2, _, rfl, hyr2, rfl⟩ := hargs
        have hav : as.map a.eval = #[y, y2] := Array.ext' (by rw [hy])
        split at h
        · rename_i e ku hu hu1
          rw [hav]
          exact OpOk.sem (appZ_run hcx hR (vals?_eq h) t0 t1 hu hu1 hyr hyr2)
        · rename_i e du hnu hu hu1
          split at h
          · rename_i z bs hs hb
            cases hz : zeroOk cx e (Nat.succ z) with
            | false => simp [hz] at h
            | true =>
              simp only [hz, cond_true] at h
              rw [hav]
              exact OpOk.sem (appendV_run hcx hR (vals?_eq h) t0 t1 hu hu1 hnu hs (Nat.succ_pos _) hb hz hyr hyr2)
          · cases h
        · cases h
      · rename_i t ts' dA xA ht ha
        have t0 : ats[0]? = some t := by rw [← Array.getElem?_toList, ht]; rfl
        rw [ha] at hargs
        simp only [LRel] at hargs
        obtain ⟨y, _, hy, hyr, y2, _, rfl, hyr2, rfl⟩ := hargs
        have hav : as.map a.eval = #[y, y2] := Array.ext' (by rw [hy])
        split at h
        · rename_i e hu
          split at h
          · rename_i z hs
            rw [hav]
            exact OpOk.sem (copyV_run hcx hR (vals?_eq h) t0 hu hs hyr hyr2)
          · cases h
        · cases h
      · rename_i ha
        cases h
        rw [ha] at hargs
        simp only [LRel] at hargs
        obtain ⟨y, _, hy, hyr, rfl⟩ := hargs
        have hav : as.map a.eval = #[y] := Array.ext' (by rw [hy])
        simp only [VRel] at hyr
        subst hyr
        rw [hav]
        exact OpOk.still hR (s := Builtin.unsafeSliceData_ ats ty #[.slice none 0 0]) ⟨.pointer none, Lib.run_unsafeSliceData_nil w ats ty 0 0, by simp [VRel]⟩
      · rename_i id g off len lim sz cap ha
        rw [nblt] at h
        by_cases hl : 0 < len
        · rw [decide_eq_true hl] at h
          simp only [cond_true, AR.val.injEq] at h
          obtain ⟨rfl, rfl⟩ := h
          rw [ha] at hargs
          simp only [LRel] at hargs
          obtain ⟨y, _, hy, hyr, rfl⟩ := hargs
          have hav : as.map a.eval = #[y] := Array.ext' (by rw [hy])
          simp only [VRel] at hyr
          obtain ⟨pl, c, p1, p2, p3, p4, p5, hh⟩ := hyr
          rcases hh with ⟨rfl, _⟩ | ⟨e2, _⟩
          · rw [hav]
            exact OpOk.still hR (s := Builtin.unsafeSliceData_ ats ty #[.slice (some ⟨pl.b, pl.base + off, none⟩) len c]) ⟨_, Lib.run_unsafeSliceData_row w ats ty _ len c (by omega), by simp only [VRel]; exact ⟨pl, p1, p2, rfl⟩⟩
          · omega
        · rw [decide_eq_false hl] at h; cases h
      · rename_i t ts' p k n ht ha
        have t0 : ats[0]? = some t := by rw [← Array.getElem?_toList, ht]; rfl
        rw [ha] at hargs
        simp only [LRel] at hargs
        obtain ⟨y, _, hy, hyr, y2, _, rfl, hyr2, rfl⟩ := hargs
        have hav : as.map a.eval = #[y, y2] := Array.ext' (by rw [hy])
        simp only [VRel] at hyr2
        subst hyr2
        rw [hav]
        obtain ⟨z, w', r1, r2, r3, r4⟩ := ustrV_run (P := P) (ty := ty) (k := k) hcx hR (vals?_eq h) t0 hyr
        exact OpOk.sem (s := Builtin.unsafeString_ ats ty #[y, .int k (.ofNat n)]) ⟨z, ρ, w', r1, r2, r3, r4⟩
      · rename_i t ts' x k ht ha
        have t0 : ats[0]? = some t := by rw [← Array.getElem?_toList, ht]; rfl
        rw [ha] at hargs
        simp only [LRel] at hargs
        obtain ⟨y, _, hy, hyr, y2, _, rfl, hyr2, rfl⟩ := hargs
        have hav : as.map a.eval = #[y, y2] := Array.ext' (by rw [hy])
        rw [hav]
        obtain ⟨w', r1, rfl, r3, r4⟩ := deleteV_run (P := P) (ty := ty) hcx hR (vals?_eq h) t0 hyr hyr2
        exact OpOk.sem (s := Builtin.delete_ ats ty #[y, y2]) ⟨undef, ρ, w', r1, undef_rel ρ, r3, r4⟩
      · rename_i t ts' x ht ha
        have t0 : ats[0]? = some t := by rw [← Array.getElem?_toList, ht]; rfl
        rw [ha] at hargs
        simp only [LRel] at hargs
        obtain ⟨y, _, hy, hyr, rfl⟩ := hargs
        have hav : as.map a.eval = #[y] := Array.ext' (by rw [hy])
        rw [hav]
        obtain ⟨w', r1, rfl, r3, r4⟩ := clearV_run (P := P) (ty := ty) hcx hR (vals?_eq h) t0 hyr
        exact OpOk.sem (s := Builtin.clear_ ats ty #[y]) ⟨undef, ρ, w', r1, undef_rel ρ, r3, r4⟩
      · rename_i k n l ha
        obtain ⟨h1, rfl⟩ := val?_eq h
        rw [ha] at hargs
        simp only [LRel] at hargs
        obtain ⟨y, ys, hy, hyr, hys⟩ := hargs
        simp only [VRel] at hyr
        subst hyr
        obtain ⟨z, r1, r2⟩ := foldI_run (P := P) false l ρ k n v ys (by simpa using h1) hys w
        refine OpOk.still hR ⟨z, ?_, r2⟩
        simp only [Builtin.min_, hy]
        simpa using r1
      · rename_i k n l ha
        obtain ⟨h1, rfl⟩ := val?_eq h
        rw [ha] at hargs
        simp only [LRel] at hargs
        obtain ⟨y, ys, hy, hyr, hys⟩ := hargs
        simp only [VRel] at hyr
        subst hyr
        obtain ⟨z, r1, r2⟩ := foldI_run (P := P) true l ρ k n v ys (by simpa using h1) hys w
        refine OpOk.still hR ⟨z, ?_, r2⟩
        simp only [Builtin.max_, hy]
        simpa using r1
      · cases h

/-! ### What else an operation may come to -/
def plainR : AR → Bool
  | .val .. => true
  | .err _ => true
  | _ => false
theorem plain_val? (v : Option AV) (S : AS) (n : Nat) : plainR (val? v S n) = true := by cases v <;> rfl
theorem plain_vals? (v : Option (AV × AS)) (n : Nat) : plainR (vals? v n) = true := by cases v <;> rfl
theorem plain_fresh (r : Option (AV × AObj)) (S : AS) (n : Nat) : plainR (freshR r S n) = true := by cases r <;> rfl
theorem plain_cond {c : Bool} {a b : AR} (ha : plainR a = true) (hb : plainR b = true) : plainR (cond c a b) = true := by cases c <;> assumption
theorem plain_builtin (cx : Cx) (S : AS) (b : Builtin) (ts : List TypeId) (as : List AV) : plainR (builtinV cx S b ts as) = true := by
  unfold builtinV
  split
  · split <;> rfl
  · split <;> rfl
  · split
    · exact plain_vals? _ _
    · split
      · exact plain_cond (plain_vals? _ _) rfl
      · rfl
    · rfl
  · split
    · split
      · exact plain_vals? _ _
      · rfl
    · rfl
  · rfl
  · exact plain_cond rfl rfl
  · exact plain_vals? _ _
  · exact plain_vals? _ _
  · exact plain_vals? _ _
  · exact plain_val? _ _ _
  · exact plain_val? _ _ _
  · rfl
theorem aop_plain {cx : Cx} {F : Fr} {S : AS} {o : Oper} (h1 : ∀ f args ats, o.op ≠ .call ⟨.value f, args, ats⟩) (h2 : ∀ x s, o.op ≠ .next x s) (h3 : ∀ x, o.op ≠ .panic x) : plainR (aop cx F S o) = true := by
  obtain ⟨dst, op, ty, pos, after, guard⟩ := o
  cases op <;> simp only [aop] <;> (try rfl) <;> (try exact plain_val? _ _ _) <;> (try exact plain_vals? _ _) <;> (try exact plain_fresh _ _ _)
  case pick c x y => split <;> rfl
  case load t x =>
    split
    · split
      · split
        · split <;> rfl
        · rfl
      · split <;> rfl
      · rfl
    · split
      · exact plain_val? _ _ _
      · rfl
    · rfl
  case store t x y =>
    split
    · exact plain_cond (by split <;> rfl) rfl
    · rfl
  case nilCheck x => split <;> rfl
  case convert src dst x =>
    split
    · rfl
    · rfl
    · split <;> rfl
    · split
      · rfl
      · split
        · rfl
        · split
          · split <;> rfl
          · rfl
      · rfl
    · refine plain_cond ?_ rfl
      split
      · exact plain_cond rfl rfl
      · rfl
    · split
      · exact plain_cond rfl rfl
      · rfl
    · split
      · exact plain_cond rfl rfl
      · rfl
    · rfl
  case makeInterface t x => split <;> rfl
  case fieldAddr s x g =>
    split
    · split
      · split <;> rfl
      · rfl
    · rfl
  case field t x g =>
    split
    · split
      · exact plain_val? _ _ _
      · rfl
    · rfl
  case indexAddr t x ix =>
    split
    · split
      · exact plain_cond rfl rfl
      · rfl
    · split
      · exact plain_cond rfl rfl
      · rfl
    · split
      · exact plain_cond rfl rfl
      · rfl
    · rfl
  case index t x ix =>
    split
    · split <;> rfl
    · split
      · exact plain_cond (plain_val? _ _ _) rfl
      · rfl
    · rfl
  case next x s => exact absurd rfl (h2 x s)
  case panic x => exact absurd rfl (h3 x)
  case extract x i =>
    split
    · exact plain_val? _ _ _
    · rfl
  case call c =>
    obtain ⟨callee, xs, ats⟩ := c
    cases callee with
    | value f => exact absurd rfl (h1 f xs ats)
    | invoke r m => rfl
    | builtin b => exact plain_builtin _ _ _ _ _
/-- An operation that comes to something else is one of three. -/
theorem aop_else {cx : Cx} {F : Fr} {S : AS} {o : Oper} (h : plainR (aop cx F S o) = false) :
    (∃ f args ats, o.op = .call ⟨.value f, args, ats⟩) ∨ (∃ x s, o.op = .next x s) ∨ ∃ x, o.op = .panic x := by
  by_cases h1 : ∃ f args ats, o.op = .call ⟨.value f, args, ats⟩
  · exact .inl h1
  by_cases h2 : ∃ x s, o.op = .next x s
  · exact .inr (.inl h2)
  by_cases h3 : ∃ x, o.op = .panic x
  · exact .inr (.inr h3)
  rw [aop_plain (fun f a b e => h1 ⟨f, a, b, e⟩) (fun x s e => h2 ⟨x, s, e⟩) (fun x e => h3 ⟨x, e⟩)] at h
  cases h

/-- An operation that comes to a list of outcomes. -/
theorem aop_many {P : Program} {cx : Cx} {ρ : Rho} {F : Fr} {S : AS} {w : World} {a : Act} (hR : R Λ ρ S w) (hF : FRel ρ F a) {o : Oper} {l : List (AV × AS)}
    (h : aop cx F S o = .many l) (hne : l ≠ []) : ∃ r, r ∈ l ∧ OpOk Λ P ρ S w (execOp a.eval o) r.1 r.2 := by
  obtain ⟨dst, op, ty, pos, after, guard⟩ := o
  rcases aop_else (by rw [h]; rfl) with ⟨f, xs, ats, rfl⟩ | ⟨x, s, rfl⟩ | ⟨x, rfl⟩
  · simp only [aop] at h
    unfold callV at h
    split at h
    · split at h
      · exact absurd (plain_vals? _ _) (by rw [h]; simp [plainR])
      · cases h
    · cases h
    · cases h
  · simp only [aop] at h
    obtain ⟨r, hr, hs⟩ := nextV_many (P := P) (ty := ty) hR h hne (hF.eval x)
    exact ⟨r, hr, OpOk.sem hs⟩
  · simp only [aop] at h
    split at h <;> cases h
theorem nextV_ne {S S' : AS} {x : AV} {s : Bool} : (∀ f as, nextV S x s ≠ .enter f as S') ∧ (∀ i as, nextV S x s ≠ .round i as S') ∧ (∀ v, nextV S x s ≠ .pan v S') := by
  unfold nextV
  refine ⟨fun f as h => ?_, fun i as h => ?_, fun v h => ?_⟩ <;>
  · split at h
    · split at h
      · cases s
        · cases h
        · simp only [cond_true] at h
          split at h
          · rename_i b _
            cases hb : Nat.blt b 128 <;> rw [hb] at h <;> cases h
          · cases h
      · cases s <;> cases h
      · cases s
        · simp only [cond_false] at h
          split at h <;> cases h
        · cases h
      · cases h
    · cases h
/-- A panic statement. -/
theorem aop_pan {P : Program} {cx : Cx} {ρ : Rho} {F : Fr} {S S' : AS} {w : World} {a : Act} (hF : FRel ρ F a) {o : Oper} {v : AV}
    (h : aop cx F S o = .pan v S') : S' = S ∧ (∃ x, o.op = .panic x) ∧ ∃ x, (execOp a.eval o).run P w = .halt (.panic x) w ∧ VRel ρ v x := by
  obtain ⟨dst, op, ty, pos, after, guard⟩ := o
  rcases aop_else (by rw [h]; rfl) with ⟨f, xs, ats, rfl⟩ | ⟨x, s, rfl⟩ | ⟨x, rfl⟩
  · simp only [aop] at h
    unfold callV at h
    split at h
    · split at h
      · exact absurd (plain_vals? _ _) (by rw [h]; simp [plainR])
      · cases h
    · cases h
    · cases h
  · simp only [aop] at h
    exact absurd h (nextV_ne.2.2 v)
  · simp only [aop] at h
    split at h
    · rename_i t u he
      cases h
      have hx := hF.eval x
      rw [he] at hx
      refine ⟨rfl, ⟨x, rfl⟩, a.eval x, ?_, hx⟩
      obtain ⟨y, e, _⟩ := (by simpa only [VRel] using hx : ∃ y, a.eval x = .iface t y ∧ VRel ρ u y)
      simp only [execOp, e, Instr.panic, goPanic, Sem.run_bind]
      rfl
    · cases h
/-- A call that is entered. -/
theorem aop_enter {P : Program} {cx : Cx} {ρ : Rho} {F : Fr} {S S' : AS} {a : Act} (hF : FRel ρ F a) {o : Oper} {f : FuncId} {as : List AV}
    (h : aop cx F S o = .enter f as S') : S' = S ∧ ∃ args, (∀ w : World, (execOp a.eval o).run P w = (callFunc f args).run P w) ∧ LRel ρ as args.toList := by
  obtain ⟨dst, op, ty, pos, after, guard⟩ := o
  rcases aop_else (by rw [h]; rfl) with ⟨fx, xs, ats, rfl⟩ | ⟨x, s, rfl⟩ | ⟨x, rfl⟩
  · simp only [aop] at h
    unfold callV at h
    split at h
    · rename_i g first captured he
      cases hxt : cx.exts.get g with
      | some xt =>
        rw [hxt] at h
        simp only [] at h
        exact absurd (plain_vals? _ _) (by rw [h]; simp [plainR])
      | none =>
        rw [hxt] at h
        simp only [AR.enter.injEq, appL_eq] at h
        obtain ⟨rfl, rfl, rfl⟩ := h
        have hf := hF.eval fx
        rw [he] at hf
        simp only [VRel] at hf
        obtain ⟨p, q, e, hp, hq⟩ := hf
        refine ⟨rfl, p ++ xs.map a.eval ++ q, fun w => ?_, ?_⟩
        · simp only [execOp, resolve, e, Deferred.ofValue]; rfl
        · simp only [Array.toList_append, List.append_assoc]
          exact hp.append ((args_rel hF xs).append hq)
    · cases h
    · cases h
  · simp only [aop] at h
    exact absurd h (nextV_ne.1 f as)
  · simp only [aop] at h
    split at h <;> cases h
/-- A call of a loop's yield. -/
theorem aop_round {P : Program} {cx : Cx} {ρ : Rho} {F : Fr} {S S' : AS} {a : Act} (hF : FRel ρ F a) {o : Oper} {id : Nat} {as : List AV}
    (h : aop cx F S o = .round id as S') : S' = S ∧ ∃ pl args, ρ id 0 = some pl ∧ (∀ w : World, (execOp a.eval o).run P w = (Instr.yield pl.b args).run P w) ∧ LRel ρ as args.toList := by
  obtain ⟨dst, op, ty, pos, after, guard⟩ := o
  rcases aop_else (by rw [h]; rfl) with ⟨fx, xs, ats, rfl⟩ | ⟨x, s, rfl⟩ | ⟨x, rfl⟩
  · simp only [aop] at h
    unfold callV at h
    split at h
    · split at h
      · exact absurd (plain_vals? _ _) (by rw [h]; simp [plainR])
      · cases h
    · rename_i i he
      cases h
      have hf := hF.eval fx
      rw [he] at hf
      simp only [VRel] at hf
      obtain ⟨pl, p1, e⟩ := hf
      refine ⟨rfl, pl, xs.map a.eval, p1, fun w => ?_, args_rel hF xs⟩
      simp only [OK.val] at e
      simp only [execOp, resolve, e, Deferred.ofValue, invoke, Sem.run_bind, Sem.run_pure, Result.andThen_ok, Array.empty_append]
    · cases h
  · simp only [aop] at h
    exact absurd h (nextV_ne.2.1 id as)
  · simp only [aop] at h
    split at h <;> cases h
end Go.Am
