/-
  The abstract machine against the model: one operation.
-/
import Derived.Test.YtpjebmdeaieniaaAmMaps
import Derived.Laws.BytesString
import Derived.Laws.BytesArg
namespace Go.Am
open Go

/-- An operation's run bears what the machine says of it. -/
def OpOk (P : Program) (ρ : Rho) (S : AS) (w : World) (s : Sem Next) (v : AV) (S' : AS) : Prop :=
  ∃ nx x ρ' w', s.run P w = .ok nx w' ∧ nextVal nx = some x ∧ VRel ρ' v x ∧ R ρ' S' w' ∧ Kp ρ S w ρ' S' w'

theorem OpOk.sem {P : Program} {ρ : Rho} {S S' : AS} {w : World} {s : Sem Value} {v : AV} (h : SemOk P ρ S w s v S') : OpOk P ρ S w (do pure (.value (← s))) v S' := by
  obtain ⟨x, ρ', w', r1, r2, r3, r4⟩ := h
  exact ⟨.value x, x, ρ', w', by simp only [Sem.run_bind, r1, Result.andThen_ok, Sem.run_pure], rfl, r2, r3, r4⟩
/-- What only reckons, or reads. -/
theorem OpOk.still {P : Program} {ρ : Rho} {S : AS} {w : World} {s : Sem Value} {v : AV} (hR : R ρ S w) (h : ∃ z, s.run P w = .ok z w ∧ VRel ρ v z) : OpOk P ρ S w (do pure (.value (← s))) v S := by
  obtain ⟨z, r1, r2⟩ := h
  exact OpOk.sem ⟨z, ρ, w, r1, r2, hR, Kp.refl _ _ _⟩
theorem OpOk.val {P : Program} {ρ : Rho} {S : AS} {w : World} {x : Value} {v : AV} (hR : R ρ S w) (h : VRel ρ v x) : OpOk P ρ S w (pure (.value x)) v S :=
  ⟨.value x, x, ρ, w, rfl, rfl, h, hR, Kp.refl _ _ _⟩

theorem val?_eq {v : Option AV} {S S' : AS} {n : Nat} {u : AV} (h : val? v S n = .val u S') : v = some u ∧ S' = S := by
  cases v with
  | none => simp [val?] at h
  | some x => simp only [val?, AR.val.injEq] at h; exact ⟨by rw [h.1], h.2.symm⟩
theorem vals?_eq {v : Option (AV × AS)} {S' : AS} {n : Nat} {u : AV} (h : vals? v n = .val u S') : v = some (u, S') := by
  cases v with
  | none => simp [vals?] at h
  | some x => obtain ⟨a, b⟩ := x; simp only [vals?, AR.val.injEq] at h; rw [h.1, h.2]

theorem bool_rel {ρ : Rho} {x : AV} {v : Value} {b : Bool} (h : x = .bool b) (hv : VRel ρ x v) : v = .bool b := by subst h; simpa [VRel] using hv

theorem load_var {P : Program} {cx : Cx} (hcx : CxOk P cx) {ρ : Rho} {S : AS} {w : World} (hR : R ρ S w) {t : TypeId} {id g off lim : Nat} {x' : Value} (hx : VRel ρ (.ptr id g off lim) x') :
    (∀ n cs, aggOf cx t = some true → szOf cx t = some n → rd S id g off n lim = some cs → ∃ z, (Instr.loadAt t x').run P w = .ok z w ∧ VRel ρ (.agg cs) z) ∧
    (∀ v, aggOf cx t = some false → rd S id g off 1 lim = some [v] → ∃ z, (Instr.loadAt t x').run P w = .ok z w ∧ VRel ρ v z) := by
  simp only [VRel] at hx
  obtain ⟨pl, p1, p2, rfl⟩ := hx
  constructor
  · intro n cs ha hs hr
    obtain ⟨arr, q1, q2, q3, q4, _⟩ := load_row (P := P) hR hr p1 p2
    exact ⟨.agg arr, by simp only [Instr.loadAt, Instr.sureAddr, loadVar, Sem.run_bind, Sem.run_pure, Result.andThen_ok, run_agg hcx ha, if_true, run_sz hcx hs, q1], by simp only [VRel]; exact ⟨arr, rfl, q3, q4⟩⟩
  · intro v ha hr
    obtain ⟨arr, q1, q2, q3, q4, q5, q6⟩ := load_row (P := P) hR hr p1 p2
    obtain ⟨z, hz, hz2⟩ := q6 0 (by omega)
    refine ⟨z, ?_, ?_⟩
    · simp only [Nat.add_zero] at hz
      simp only [Instr.loadAt, Instr.sureAddr, loadVar, Sem.run_bind, Sem.run_pure, Result.andThen_ok, run_agg hcx ha, Bool.false_eq_true, if_false, run_load, hz]
    · obtain ⟨y, hy, hr'⟩ := q3.get (i := 0) (x := v) rfl
      rw [hz2] at hy; cases hy; exact hr'

theorem bytes_back : ∀ (cs : List AV) (l : List Nat) (arr : List Value) (ρ : Rho), bytesL cs = some l → LRel ρ cs arr →
    arr = (l.map Int.ofNat).map (Value.int .u8) ∧ ∀ n, n ∈ l → n < 256 := by
  intro cs
  induction cs with
  | nil => intro l arr ρ h hr; simp only [LRel] at hr; have h' : some [] = some l := h; cases h'; exact ⟨hr, fun n hn => by cases hn⟩
  | cons c cs ih =>
    intro l arr ρ h hr
    simp only [LRel] at hr
    obtain ⟨y, ys, rfl, hy, hys⟩ := hr
    have h' : bytesStep c (bytesL cs) = some l := h
    unfold bytesStep at h'
    split at h'
    · rename_i n l' hl'
      rw [nblt] at h'
      by_cases hn : n < 256
      · rw [decide_eq_true hn] at h'
        simp only [cond_true, Option.some.injEq] at h'
        subst h'
        obtain ⟨i1, i2⟩ := ih l' ys ρ hl' hys
        simp only [VRel] at hy
        rw [i1, hy]
        exact ⟨rfl, fun m hm => by cases hm with | head => exact hn | tail _ h => exact i2 m h⟩
      · rw [decide_eq_false hn] at h'; cases h'
    · cases h'

theorem str_of_bytes (l : List Nat) (h : ∀ n, n ∈ l → n < 256) : ((l.map Int.ofNat).foldl (fun r n => r.push (UInt8.ofNat n.toNat)) ByteArray.empty).data.toList.map UInt8.toNat = l := by
  rw [foldl_push_bytes]
  simp only [List.map_map]
  have e : (ByteArray.empty.data ++ (l.map ((fun n : Int => UInt8.ofNat n.toNat) ∘ Int.ofNat)).toArray).toList = l.map fun n => UInt8.ofNat n := by
    simp [Function.comp]
  rw [e, List.map_map]
  have : ∀ n, n ∈ l → (UInt8.toNat ∘ fun n => UInt8.ofNat n) n = n := fun n hn => by
    simp only [Function.comp, UInt8.toNat_ofNat']
    exact Nat.mod_eq_of_lt (h n hn)
  rw [List.map_congr_left this]; simp

/-- '[]byte(s)'. -/
theorem s2b_run {P : Program} {ρ : Rho} {S : AS} {w : World} (hR : R ρ S w) {e : TypeId} {b : ByteArray} {s : List Nat} (hb : b.data.toList.map UInt8.toNat = s) :
    SemOk P ρ S w (Conv.stringToBytes e b) (.slice S.next 0 0 s.length s.length 1 none) ⟨S.h.set S.next (.row (mapL (fun n => AV.int .u8 (.ofNat n)) s) 0 0 false), Nat.succ S.next⟩ := by
  let q : Question := .appendCap b.size 0 e
  let c := q.cut (w.tape w.drawn q)
  have hge : b.size ≤ c := Nat.le_add_right _ _
  let C : Array Value := b.data.map (fun x => Value.int .u8 x.toNat) ++ Array.replicate (c - b.size) (.int .u8 0)
  have hCs : C.size = c := by simp [C]; have : b.data.size = b.size := rfl; omega
  let w' : World := { w with drawn := w.drawn + 1, heap := w.heap.push (.cells C e (c, c + 1)) }
  have hsz := size_str hb
  have hcells : mapL (fun n => AV.int .u8 (.ofNat n)) s = b.data.toList.map fun x => AV.int .u8 (x.toNat : Int) := by
    rw [mapL_eq, ← hb, List.map_map]; rfl
  have hlen : (mapL (fun n => AV.int .u8 (.ofNat n)) s).length = s.length := by rw [mapL_eq]; simp
  have hrel : Cells ρ (mapL (fun n => AV.int .u8 (.ofNat n)) s) (C.toList.take (mapL (fun n => AV.int .u8 (.ofNat n)) s).length) := by
    have e1 : C.toList.take (mapL (fun n => AV.int .u8 (.ofNat n)) s).length = b.data.toList.map fun x => Value.int .u8 (x.toNat : Int) := by
      rw [hlen, ← hsz]
      simp only [C, Array.toList_append, Array.toList_map]
      rw [List.take_append_of_le_length (by simp), List.take_of_length_le (by simp)]
    rw [e1, hcells]
    refine ⟨LRel.map _ _ (fun x => by simp [VRel]) _, fun x hx => ?_⟩
    obtain ⟨y, _, rfl⟩ := List.mem_map.1 hx
    rfl
  have hgrew : Grew (.cells C e (c, c + 1)) w w' := ⟨⟨rfl, rfl, rfl⟩, rfl⟩
  obtain ⟨ρ', pl, p1, p2, p3, p4, p5, p6, p7⟩ := hR.newRowF hgrew (fun i hi => by simp only [froz]; rw [hCs] at hi; rw [decide_eq_false (by omega)]; rfl) hrel.1 (by rw [hlen, hCs]; omega) (fun i v hi hv => hrel.2 v (by
      have : (C.toList.take (mapL (fun n => AV.int .u8 (.ofNat n)) s).length)[i]? = some v := by rw [List.getElem?_take, if_pos hi]; simpa using hv
      exact List.mem_of_getElem? this))
  refine ⟨.slice (some ⟨w.heap.size, 0, none⟩) s.length c, ρ', w', ?_, ?_, p6, p7⟩
  · have hch : (choose (.appendCap b.size 0 e)).run P w = .ok c { w with drawn := w.drawn + 1 } := by rw [run_choose]; rfl
    unfold Conv.stringToBytes
    simp only [Sem.run_bind, hch, Result.andThen_ok, Go.newRow, run_newObj, Sem.run_pure, markStringish, run_shape]
    have hsh : ({ w with drawn := w.drawn + 1, heap := w.heap.push (.cells C e) } : World).shape? w.heap.size = some (e, c) := by
      simp [World.shape?, hCs]
    have hfz : ({ w with drawn := w.drawn + 1, heap := w.heap.push (.cells C e) } : World).freeze { block := w.heap.size, off := c } 1 = w' := by
      simp only [World.freeze, Nat.one_ne_zero, if_false, w']
      congr 1
      apply Array.ext_getElem?
      intro i
      rw [Array.getElem?_modify]
      by_cases hi : w.heap.size = i
      · subst hi; simp
      · rw [if_neg hi, Array.getElem?_push, Array.getElem?_push, if_neg (Ne.symm hi), if_neg (Ne.symm hi)]
    simp only [C] at hsh hfz
    rw [hsh]
    simp only [run_freeze, Result.andThen_ok]
    rw [hfz, hsz]
  · exact VRel.slice_mk pl c p1 (by rw [p4, hlen]; exact Nat.le_refl _) (by omega) (by decide) (by omega) (.inl ⟨by rw [p2, p3], by rw [p3, p5, hCs]; omega, fun k hk => by cases hk⟩)

theorem aop_sound {P : Program} {cx : Cx} (hcx : CxOk P cx) {ρ : Rho} {F : Fr} {S S' : AS} {w : World} {a : Act} (hR : R ρ S w) (hF : FRel ρ F a) {o : Oper} {v : AV}
    (h : aop cx F S o = .val v S') : OpOk P ρ S w (execOp a.eval o) v S' := by
  obtain ⟨dst, op, ty, pos, after, guard⟩ := o
  have fr : ∀ n, freshR (freshV cx F S.next op) S n = .val v S' → OpOk P ρ S w (execOp a.eval ⟨dst, op, ty, pos, after, guard⟩) v S' := by
    intro n hh
    cases hf : freshV cx F S.next op with
    | none => simp [freshR, hf] at hh
    | some vo =>
      obtain ⟨u, obj⟩ := vo
      simp only [freshR, hf, AR.val.injEq] at hh
      obtain ⟨rfl, rfl⟩ := hh
      obtain ⟨s, e, hfo⟩ := fresh_run (P := P) hcx hF (o := ⟨dst, op, ty, pos, after, guard⟩) hf w
      rw [e]
      exact OpOk.sem (hfo.sem hR)
  cases op <;> simp only [aop, reduceCtorEq] at h
  case move x => cases h; exact OpOk.val hR (hF.eval x)
  case assign x => cases h; exact OpOk.val hR (hF.eval x)
  case pick c x y =>
    split at h
    · rename_i hc
      cases h
      have := bool_rel hc (hF.eval c)
      exact ⟨.value (a.eval x), a.eval x, ρ, w, by simp [execOp, this, asBool], rfl, hF.eval x, hR, Kp.refl _ _ _⟩
    · rename_i hc
      cases h
      have := bool_rel hc (hF.eval c)
      exact ⟨.value (a.eval y), a.eval y, ρ, w, by simp [execOp, this, asBool], rfl, hF.eval y, hR, Kp.refl _ _ _⟩
    · cases h
  case alloc e => exact fr _ h
  case box t x => exact fr _ h
  case buildSlice t n parts => exact fr _ h
  case makeMap t r => exact fr _ h
  case makeSlice t l c => exact fr _ h
  case build t parts =>
    obtain ⟨h1, rfl⟩ := val?_eq h
    exact OpOk.still hR (buildV_run hcx hF h1 w)
  case load t x =>
    split at h
    · rename_i id g off lim he
      have hx := hF.eval x
      rw [he] at hx
      obtain ⟨l1, l2⟩ := load_var (t := t) hcx hR hx
      split at h
      · rename_i ha
        split at h
        · rename_i n hs
          split at h
          · rename_i cs hr
            cases h
            exact OpOk.still hR (l1 n cs ha hs hr)
          · cases h
        · cases h
      · rename_i ha
        split at h
        · rename_i u hr
          cases h
          exact OpOk.still hR (l2 _ ha hr)
        · cases h
      · cases h
    · cases h
  case store t x y =>
    split at h
    · rename_i id g off lim cs n he hc hs
      rw [nbeq, lenL_eq] at h
      by_cases hn : cs.length = n
      · rw [decide_eq_true hn] at h
        simp only [cond_true] at h
        split at h
        · rename_i S1 hwr
          cases h
          have hx := hF.eval x
          rw [he] at hx
          simp only [VRel] at hx
          obtain ⟨pl, p1, p2, hxe⟩ := hx
          have hcells := cellsOf_rel hc (hF.eval y)
          obtain ⟨w', r1, r2, r3⟩ := store_row (P := P) hR hwr p1 p2 hcells.1 hcells.2
          have hsz : (a.eval y).cells.size = n := by have := hcells.length; simp at this; omega
          refine ⟨.skip, undef, ρ, w', ?_, rfl, undef_rel ρ, r2, r3⟩
          simp only [execOp, Instr.storeAt, hxe, Instr.sureAddr, storeVar, Sem.run_bind, Sem.run_pure, Result.andThen_ok, run_sz hcx hs]
          rw [if_neg (by simp [hsz])]
          simp only [r1, Result.andThen_ok]
        · cases h
      · rw [decide_eq_false hn] at h; cases h
    · cases h
  case nilCheck x =>
    have hx := hF.eval x
    split at h <;> (try (cases h; done)) <;> rename_i he <;> cases h <;> rw [he] at hx
    · obtain ⟨pl, p1, p2, e⟩ := (by simpa only [VRel] using hx : ∃ pl, _)
      have : execOp a.eval ⟨dst, .nilCheck x, ty, pos, after, guard⟩ = pure (.value (a.eval x)) := by simp only [execOp, e]
      rw [this]; exact OpOk.val hR hx
    · obtain ⟨p, q, e, _⟩ := (by simpa only [VRel] using hx : ∃ p q, _)
      have : execOp a.eval ⟨dst, .nilCheck x, ty, pos, after, guard⟩ = pure (.value (a.eval x)) := by simp only [execOp, e]
      rw [this]; exact OpOk.val hR hx
    · obtain ⟨p, q, e, _⟩ := slice_val hx
      have : execOp a.eval ⟨dst, .nilCheck x, ty, pos, after, guard⟩ = pure (.value (a.eval x)) := by simp only [execOp, e]
      rw [this]; exact OpOk.val hR hx
    · obtain ⟨p, q, e⟩ := (by simpa only [VRel] using hx : ∃ p, _)
      have : execOp a.eval ⟨dst, .nilCheck x, ty, pos, after, guard⟩ = pure (.value (a.eval x)) := by simp only [execOp, e]
      rw [this]; exact OpOk.val hR hx
  case binOp op t x y yt =>
    obtain ⟨h1, rfl⟩ := val?_eq h
    refine OpOk.still (s := do eqGuard op t x y (a.eval x) (a.eval y); binOp op t (a.eval x) (a.eval y)) hR (binV_run hcx h1 ?_ (hF.eval x) (hF.eval y) w)
    cases x <;> cases y <;> rfl
  case unOp op t x =>
    obtain ⟨h1, rfl⟩ := val?_eq h
    exact OpOk.still hR (unV_run h1 (hF.eval x) w)
  case convert src dst x =>
    have hx := hF.eval x
    split at h
    · rename_i ds k k0 n hu1 hu2 he
      cases h
      rw [he] at hx
      simp only [VRel] at hx
      refine OpOk.still hR ⟨.int k (k.wrap n), ?_, by rw [mkI_eq]; simp [VRel]⟩
      simp only [convert, Sem.run_bind, run_und hcx hu1, run_und hcx hu2, Result.andThen_ok, hx]
      rfl
    · rename_i ds s hu1 hu2 he
      cases h
      rw [he] at hx
      have hx' := hx
      simp only [VRel] at hx'
      obtain ⟨b, hb, _⟩ := hx'
      refine OpOk.still hR ⟨a.eval x, ?_, hx⟩
      simp only [convert, Sem.run_bind, run_und hcx hu1, run_und hcx hu2, Result.andThen_ok, hb]
      rfl
    · rename_i ds e s hu1 hu2 he
      split at h
      · rename_i hu3
        cases h
        rw [he] at hx
        simp only [VRel] at hx
        obtain ⟨b, hb, hbs⟩ := hx
        refine OpOk.sem ?_
        obtain ⟨z, ρ', w', r1, r2, r3, r4⟩ := s2b_run (P := P) (e := e) hR hbs
        refine ⟨z, ρ', w', ?_, r2, r3, r4⟩
        simp only [convert, Sem.run_bind, run_und hcx hu1, run_und hcx hu2, Result.andThen_ok, hb]
        simp only [run_und hcx hu3, Result.andThen_ok]
        exact r1
      · cases h
    · rename_i xx e hu1 hu2 hno
      have hconv : ∀ (ad : Option Addr) (l c : Nat), und cx e = some (.int .u8) → (convert src dst (.slice ad l c)).run P w = (Conv.bytesToString (.slice ad l c)).run P w :=
        fun ad l c hu3 => run_convert_bytes_string w src dst e ad l c (und_ok hcx hu1) (und_ok hcx hu3) (und_ok hcx hu2)
      split at h
      · rename_i hu3 he
        cases h
        rw [he] at hx
        simp only [VRel] at hx
        refine OpOk.still hR ⟨.string .empty, ?_, by simp only [VRel]; exact ⟨_, rfl, rfl⟩⟩
        rw [hx, hconv _ _ _ hu3]; rfl
      · rename_i id g off len lim cap hu3 he
        rw [he] at hx
        obtain ⟨ad, c, e1, hlc, _⟩ := slice_val hx
        cases len with
        | zero =>
          cases h
          refine OpOk.still hR ⟨.string .empty, ?_, by simp only [VRel]; exact ⟨_, rfl, rfl⟩⟩
          rw [e1, hconv _ _ _ hu3, run_bytesToString w ad 0 c [] rfl]; rfl
        | succ l =>
          simp only [] at h
          split at h
          · rename_i cs hr
            split at h
            · rename_i bs hbs
              cases h
              simp only [VRel] at hx
              obtain ⟨pl, c', p1, p2, p3, p4, p5, hh⟩ := hx
              rcases hh with ⟨e2, _⟩ | ⟨e2, _⟩
              · rw [e1] at e2; cases e2
                obtain ⟨arr, q1, q2, q3, q4, _⟩ := load_row (P := P) hR hr p1 p2
                obtain ⟨b1, b2⟩ := bytes_back cs bs arr.toList ρ hbs q3
                have harr : arr = ((bs.map Int.ofNat).map (Value.int .u8)).toArray := Array.ext' (by simpa using b1)
                rw [harr] at q1
                refine OpOk.still hR ⟨.string ((bs.map Int.ofNat).foldl (fun r n => r.push (UInt8.ofNat n.toNat)) ByteArray.empty), ?_, ?_⟩
                · rw [e1, hconv _ _ _ hu3]; exact run_bytesToString w _ (l + 1) c _ q1
                · simp only [VRel]; exact ⟨_, rfl, str_of_bytes bs b2⟩
              · omega
            · cases h
          · cases h
      · cases h
    · cases h
  case makeInterface t x =>
    split at h
    · cases h
    · rename_i d hu hd
      cases h
      refine OpOk.still hR ⟨.iface t (a.eval x), ?_, by simp only [VRel]; exact ⟨_, rfl, hF.eval x⟩⟩
      simp only [Instr.makeInterface, Sem.run_bind, run_und hcx hd, Result.andThen_ok]
      cases d <;> first | rfl | exact absurd rfl (hu _)
    · cases h
  case makeFunc fn first captured =>
    cases h
    refine OpOk.still hR ⟨.func fn (first.map a.eval) (captured.map a.eval), rfl, ?_⟩
    simp only [VRel]
    exact ⟨_, _, rfl, args_rel hF first, args_rel hF captured⟩
  case slice t x lo hi mx =>
    obtain ⟨h1, rfl⟩ := val?_eq h
    exact OpOk.still hR (sliceV_run hcx hF h1 (hF.eval x) w)
  case fieldAddr s x f =>
    split at h
    · rename_i fs id g off lim hu he
      rw [nth_eq] at h
      split at h
      · rename_i fd hf
        split at h
        · rename_i z hs
          rw [forceN_eq] at h
          cases h
          have hx := hF.eval x
          rw [he] at hx
          simp only [VRel] at hx
          obtain ⟨pl, p1, p2, e⟩ := hx
          have hf' : fs[f]? = some fd := by rw [← Array.getElem?_toList]; exact hf
          refine OpOk.still hR ⟨.pointer (some ⟨pl.b, pl.base + (off + fd.offset), none⟩), ?_, by simp only [VRel]; exact ⟨pl, p1, p2, rfl⟩⟩
          simp only [Instr.fieldAt, Sem.run_bind, run_und hcx hu, Result.andThen_ok, hf', e, Instr.sureAddr, Sem.run_pure, fieldPlace, run_sz hcx hs]
          rw [if_neg (Nat.succ_ne_zero z), Addr_add, Nat.add_assoc]; rfl
        · cases h
      · cases h
    · cases h
  case field t x f =>
    split at h
    · rename_i fs cs hu he
      rw [nth_eq] at h
      split at h
      · rename_i fd hf
        obtain ⟨h1, rfl⟩ := val?_eq h
        have hx := hF.eval x
        rw [he] at hx
        simp only [VRel] at hx
        obtain ⟨arr, e, p, q⟩ := hx
        have hf' : fs[f]? = some fd := by rw [← Array.getElem?_toList]; exact hf
        obtain ⟨z, r1, r2⟩ := part_run hcx h1 p q w
        refine OpOk.still hR ⟨z, ?_, r2⟩
        simp only [Instr.field, Sem.run_bind, run_und hcx hu, Result.andThen_ok, hf', e, asAgg, Sem.run_pure, r1]
      · cases h
    · cases h
  case indexAddr t x ix =>
    split at h
    · rename_i e id g off len lim sz cap i hu he hi
      split at h
      · rename_i z hs
        rw [nbeq, nblt, forceN_eq] at h
        cases hc : (decide (z = sz) && decide (i < len)) with
        | false => simp [hc] at h
        | true =>
          simp only [hc, cond_true, AR.val.injEq] at h
          obtain ⟨rfl, rfl⟩ := h
          simp only [Bool.and_eq_true, decide_eq_true_eq] at hc
          obtain ⟨rfl, hlt⟩ := hc
          have hx := hF.eval x
          rw [he] at hx
          simp only [VRel] at hx
          obtain ⟨pl, c, p1, p2, p3, p4, p5, hh⟩ := hx
          obtain ⟨k, hk⟩ := natOf_rel hi (hF.eval ix)
          rcases hh with ⟨e1, _⟩ | ⟨e1, _⟩
          · refine OpOk.still hR ⟨.pointer (some ⟨pl.b, pl.base + (off + i * z), none⟩), ?_, by simp only [VRel]; exact ⟨pl, p1, p2, rfl⟩⟩
            have hin : (0 : Int) ≤ (i : Int) ∧ (i : Int) < (len : Int) := by omega
            simp only [Instr.indexAt, hk, asIntOf, Sem.run_bind, Sem.run_pure, run_und hcx hu, Result.andThen_ok, e1, if_pos hin, run_sz hcx hs, Int.toNat_natCast, Addr_add, Nat.add_assoc]
          · omega
      · cases h
    · rename_i n e id g off lim i hu he hi
      split at h
      · rename_i z hs
        rw [nblt, forceN_eq] at h
        by_cases hlt : i < n
        · rw [decide_eq_true hlt] at h
          simp only [cond_true, AR.val.injEq] at h
          obtain ⟨rfl, rfl⟩ := h
          have hx := hF.eval x
          rw [he] at hx
          simp only [VRel] at hx
          obtain ⟨pl, p1, p2, e1⟩ := hx
          obtain ⟨k, hk⟩ := natOf_rel hi (hF.eval ix)
          refine OpOk.still hR ⟨.pointer (some ⟨pl.b, pl.base + (off + i * z), none⟩), ?_, by simp only [VRel]; exact ⟨pl, p1, p2, rfl⟩⟩
          have hin : (0 : Int) ≤ (i : Int) ∧ (i : Int) < (n : Int) := by omega
          simp only [Instr.indexAt, hk, asIntOf, Sem.run_bind, Sem.run_pure, run_und hcx hu, Result.andThen_ok, e1, Instr.sureAddr, if_pos hin, run_sz hcx hs, Int.toNat_natCast, Addr_add, Nat.add_assoc]
        · rw [decide_eq_false hlt] at h; cases h
      · cases h
    · cases h
  case index t x ix =>
    split at h
    · rename_i s i hu he hi
      rw [nth_eq] at h
      split at h
      · rename_i n hn
        cases h
        have hx := hF.eval x
        rw [he] at hx
        simp only [VRel] at hx
        obtain ⟨b, e, hb⟩ := hx
        obtain ⟨k, hk⟩ := natOf_rel hi (hF.eval ix)
        rw [← hb, List.getElem?_map] at hn
        cases hbi : b.data.toList[i]? with
        | none => rw [hbi] at hn; cases hn
        | some c =>
          rw [hbi] at hn
          simp only [Option.map_some, Option.some.injEq] at hn
          subst hn
          have hlt : i < b.size := by
            rcases Nat.lt_or_ge i b.size with h0 | h0
            · exact h0
            · rw [List.getElem?_eq_none (show b.data.toList.length ≤ i from h0)] at hbi; cases hbi
          refine OpOk.still hR ⟨.int .u8 (c.toNat : Int), ?_, by simp [VRel]⟩
          have h0 : (0 : Int) ≤ (i : Int) := by omega
          have hg : b[i]? = some c := by
            rw [ByteArray.getElem?_lt' b i hlt]
            have : b.data.toList[i]? = some (b[i]) := by
              rw [List.getElem?_eq_getElem (show i < b.data.toList.length from hlt)]; rfl
            rw [hbi] at this; exact this.symm
          simp only [Instr.index, hk, asIntOf, Sem.run_bind, Sem.run_pure, run_und hcx hu, Result.andThen_ok, e, if_pos h0, Int.toNat_natCast, hg]
      · cases h
    · rename_i n e cs i hu he hi
      split at h
      · rename_i z hs
        rw [nblt] at h
        by_cases hlt : i < n
        · rw [decide_eq_true hlt] at h
          simp only [cond_true] at h
          obtain ⟨h1, rfl⟩ := val?_eq h
          have hx := hF.eval x
          rw [he] at hx
          simp only [VRel] at hx
          obtain ⟨arr, e1, p, q⟩ := hx
          obtain ⟨k, hk⟩ := natOf_rel hi (hF.eval ix)
          obtain ⟨zv, r1, r2⟩ := part_run hcx h1 p q w
          refine OpOk.still hR ⟨zv, ?_, r2⟩
          have hin : (0 : Int) ≤ (i : Int) ∧ (i : Int) < (n : Int) := by omega
          simp only [Nat.mul_eq] at r1
          simp only [Instr.index, hk, asIntOf, Sem.run_bind, Sem.run_pure, run_und hcx hu, Result.andThen_ok, e1, if_pos hin, run_sz hcx hs, Int.toNat_natCast, r1]
        · rw [decide_eq_false hlt] at h; cases h
      · cases h
    · cases h
  case lookup t x ix ok =>
    obtain ⟨h1, rfl⟩ := val?_eq h
    exact OpOk.still hR (lookupV_run hcx hR h1 (hF.eval x) (hF.eval ix))
  case mapUpdate t m k x =>
    obtain ⟨w', r1, rfl, r3, r4⟩ := updateV_run hcx hR (vals?_eq h) (hF.eval m) (hF.eval k) (hF.eval x)
    exact ⟨.skip, undef, ρ, w', by simp only [execOp, Sem.run_bind, r1, Result.andThen_ok, Sem.run_pure], rfl, undef_rel ρ, r3, r4⟩
  case extract x i =>
    split at h
    · rename_i vs he
      obtain ⟨h1, rfl⟩ := val?_eq h
      have hx := hF.eval x
      rw [he] at hx
      simp only [VRel] at hx
      obtain ⟨arr, e, hl⟩ := hx
      rw [nth_eq] at h1
      obtain ⟨y, hy, hyr⟩ := hl.get h1
      refine OpOk.still hR ⟨y, ?_, hyr⟩
      have hy' : arr[i]? = some y := by rw [← Array.getElem?_toList]; exact hy
      simp only [Instr.extract, e, hy', Sem.run_pure]
    · cases h
  case call c =>
    obtain ⟨callee, as, ats⟩ := c
    cases callee with
    | value f =>
      simp only [] at h
      unfold callV at h
      split at h <;> cases h
    | invoke r m => cases h
    | builtin b =>
      simp only [] at h
      have hargs := args_rel hF as
      have hex : execOp a.eval ⟨dst, .call ⟨.builtin b, as, ats⟩, ty, pos, after, guard⟩ = builtin b ats ty (as.map fun | .const _ => true | _ => false) (as.map a.eval) := by
        simp only [execOp, resolve]; rfl
      rw [hex]
      unfold builtinV at h
      split at h
      · rename_i t ts' x xs ht ha
        split at h
        · rename_i n hn
          rw [forceN_eq] at h
          cases h
          rw [ha] at hargs
          simp only [LRel] at hargs
          obtain ⟨y, ys, hy, hyr, _⟩ := hargs
          have h0 : (as.map a.eval)[0]? = some y := by rw [← Array.getElem?_toList, hy]; rfl
          have t0 : ats[0]? = some t := by rw [← Array.getElem?_toList, ht]; rfl
          exact OpOk.still hR ⟨goInt n, lenV_run hcx hR hn t0 h0 hyr, by simp [VRel, goInt]⟩
        · cases h
      · rename_i t ts' x xs ht ha
        have t0 : ats[0]? = some t := by rw [← Array.getElem?_toList, ht]; rfl
        rw [ha] at hargs
        simp only [LRel] at hargs
        obtain ⟨y, ys, hy, hyr, _⟩ := hargs
        have h0 : (as.map a.eval)[0]? = some y := by rw [← Array.getElem?_toList, hy]; rfl
        have mk : ∀ (n : Nat), (Builtin.cap_ ats ty (as.map a.eval)).run P w = .ok (goInt n) w → OpOk P ρ S w (builtin .cap ats ty (as.map fun | .const _ => true | _ => false) (as.map a.eval)) (.int .i64 (.ofNat n)) S :=
          fun n hr => OpOk.still hR ⟨goInt n, hr, by simp [VRel, goInt]⟩
        split at h
        · rename_i e hu
          cases h
          simp only [VRel] at hyr
          refine mk 0 ?_
          unfold Builtin.cap_
          simp only [t0, h0, Sem.run_bind, run_und hcx hu, Result.andThen_ok, hyr, Sem.run_pure]
        · rename_i e id g off len lim sz c hu
          cases h
          obtain ⟨ad, c', e1, _, hc⟩ := slice_val hyr
          obtain rfl := hc c rfl
          refine mk c' ?_
          unfold Builtin.cap_
          simp only [t0, h0, Sem.run_bind, run_und hcx hu, Result.andThen_ok, e1, Sem.run_pure]
        · rename_i n e hu
          cases h
          refine mk n ?_
          unfold Builtin.cap_
          simp only [t0, h0, Sem.run_bind, run_und hcx hu, Result.andThen_ok]
          cases y <;> rfl
        · cases h
      · rename_i t u ts' sA xA ht ha
        have t0 : ats[0]? = some t := by rw [← Array.getElem?_toList, ht]; rfl
        have t1 : ats[1]? = some u := by rw [← Array.getElem?_toList, ht]; rfl
        rw [ha] at hargs
        simp only [LRel] at hargs
        obtain ⟨y, _, hy, hyr, y2, _, rfl, hyr2, rfl⟩ := hargs
        have hav : as.map a.eval = #[y, y2] := Array.ext' (by rw [hy])
        split at h
        · cases h
        · rename_i e du hnu hu hu1
          split at h
          · rename_i z bs hs hb
            cases hz : zeroOk cx e (Nat.succ z) with
            | false => simp [hz] at h
            | true =>
              simp only [hz, cond_true] at h
              rw [hav]
              exact OpOk.sem (appendV_run hcx hR (vals?_eq h) t0 t1 hu hu1 hnu hs (Nat.succ_pos _) hb hz hyr hyr2)
          · cases h
        · cases h
      · rename_i t ts' dA xA ht ha
        have t0 : ats[0]? = some t := by rw [← Array.getElem?_toList, ht]; rfl
        rw [ha] at hargs
        simp only [LRel] at hargs
        obtain ⟨y, _, hy, hyr, y2, _, rfl, hyr2, rfl⟩ := hargs
        have hav : as.map a.eval = #[y, y2] := Array.ext' (by rw [hy])
        split at h
        · rename_i e hu
          split at h
          · rename_i z hs
            rw [hav]
            exact OpOk.sem (copyV_run hcx hR (vals?_eq h) t0 hu hs hyr hyr2)
          · cases h
        · cases h
      · rename_i k n l ha
        obtain ⟨h1, rfl⟩ := val?_eq h
        rw [ha] at hargs
        simp only [LRel] at hargs
        obtain ⟨y, ys, hy, hyr, hys⟩ := hargs
        simp only [VRel] at hyr
        subst hyr
        obtain ⟨z, r1, r2⟩ := foldI_run (P := P) false l ρ k n v ys (by simpa using h1) hys w
        refine OpOk.still hR ⟨z, ?_, r2⟩
        simp only [Builtin.min_, hy]
        simpa using r1
      · rename_i k n l ha
        obtain ⟨h1, rfl⟩ := val?_eq h
        rw [ha] at hargs
        simp only [LRel] at hargs
        obtain ⟨y, ys, hy, hyr, hys⟩ := hargs
        simp only [VRel] at hyr
        subst hyr
        obtain ⟨z, r1, r2⟩ := foldI_run (P := P) true l ρ k n v ys (by simpa using h1) hys w
        refine OpOk.still hR ⟨z, ?_, r2⟩
        simp only [Builtin.max_, hy]
        simpa using r1
      · cases h
end Go.Am
