/-
  slices.Sorted(maps.Keys(m)): all orders of the map, one row.
  slices.Sorted(maps.Keys(m)): all orders of the map, one row.
  slices.Sorted(maps.Keys(m)) as a function that need not be entered.
  slices.Sorted(maps.Keys(m)) as a function that need not be entered.
  slices.Sorted(maps.Keys(m)) at numbers, as the kernel reckons it.
-/
import Derived.Test.YtgeghppdhjlbiaaGreatDoorPartB
import Derived.Test.YtgeghppdhjlbiaaGreatDoorAmIter
namespace Go.Proofs.YtgeghppdhjlbiaaGreatDoor.mod
open Go Go.Am
set_option linter.unusedVariables false
set_option linter.unusedSimpArgs false

attribute [local simp] callV_yld aop_range aop_next aop_entry
theorem fn223 : C0.fns.get 223 = some Tryz.f223 := by kernel_rfl
theorem ok223 : codeOk C0 Tryz.f223.ntmps (Tryz.f223.body.getD .skip) = true := by kernel_rfl
theorem fn155 : C0.fns.get 155 = some Tryz.f155 := by kernel_rfl
theorem ok155 : codeOk C0 Tryz.f155.ntmps (Tryz.f155.body.getD .skip) = true := by kernel_rfl
theorem fn154 : C0.fns.get 154 = some Tryz.f154 := by kernel_rfl
theorem ok154 : codeOk C0 Tryz.f154.ntmps (Tryz.f154.body.getD .skip) = true := by kernel_rfl
/-- The body of AppendSeq's range over a function. -/
noncomputable def cA : Code := Code.region 2
      #[{ dst := some 5, op := Op.assign (Operand.tmp 7), type := 38, pos := "iter.go:51", after := #[],
          guard := none }]
      false
noncomputable def cB : Code := (Code.block 1
      (Code.region 3
        #[{ dst := some 8, op := Op.load 88 (Operand.tmp 2), type := 88, pos := "iter.go:52", after := #[],
            guard := none },
          { dst := some 9, op := Op.move (Operand.tmp 5), type := 38, pos := "iter.go:52", after := #[],
            guard := none },
          { dst := some 10, op := Op.buildSlice 88 1 #[(0, Operand.tmp 9)], type := 88, pos := "iter.go:52",
            after := #[{ on := 1, ground := Ground.data }], guard := none },
          { dst := some 11,
            op :=
              Op.call
                { callee := Callee.builtin Builtin.append, args := #[Operand.tmp 8, Operand.tmp 10],
                  argTypes := #[88, 88] },
            type := 88, pos := "iter.go:52",
            after := #[{ on := 0, ground := Ground.data }, { on := 2, ground := Ground.data }], guard := none },
          { dst := none, op := Op.store 88 (Operand.tmp 2) (Operand.tmp 11), type := 0, pos := "iter.go:52",
            after :=
              #[{ on := 3, ground := Ground.data }, { on := 3, ground := Ground.chain },
                { on := 0, ground := Ground.phase }, { on := 1, ground := Ground.phase },
                { on := 2, ground := Ground.phase }, { on := 3, ground := Ground.phase }],
            guard := none }]
        false))
def keyN (e : AEnt) : Nat := match e.key with | .int _ (.ofNat n) => n | _ => 0
def keysL (L : List AEnt) : List AV := L.map fun e => AV.int .u64 (keyN e : Int)
/-- What has been collected of so many entries. -/
def colV (B : Nat) (L : List AEnt) : AV := match L.length with | 0 => .nils | k + 1 => .slice B k 0 (k + 1) (k + 1) 1 none
def ColAt (S : AS) (B : Nat) (L : List AEnt) : Prop := L = [] ∨ S.h.get B = some (.row (keysL L) 0 (L.length - 1) false 38)
section
variable {S : AS}
theorem append_un {cx : Cx} {S : AS} {t u : Nat} {ts : List TypeId} {p : Nat × Nat × Nat} {v x : AV} {d : TypeDesc} {z : Nat} (h : slT cx t = some p) (hu : und cx u = some d) (hd : notInt d = true) (hz : p.2.1 = z + 1) :
    builtinV cx S .append (t :: u :: ts) [v, x] = vals? (appendV S p.1 (z + 1) p.2.2 v x) 4 := by
  obtain ⟨ht, hs, hb, hz', hp⟩ := slT_und h
  obtain ⟨e, sz, bs⟩ := p
  simp only at ht hs hb hz' hz ⊢
  subst hz
  show (match und cx t, und cx u with
      | some (.slice e), some (.int _) => vals? (appZ cx S e v x) 3
      | some (.slice e), some _ => match szOf cx e, bytesOf cx e with
        | some (Nat.succ z), some bs => cond (zeroOk cx e (Nat.succ z)) (vals? (appendV S e (Nat.succ z) bs v x) 4) (AR.err 13)
        | _, _ => AR.err 5
      | _, _ => AR.err 6) = _
  rw [ht, hu]
  cases d <;> first | (cases hd; done) | simp only [hs, hb, hz', cond_true]
theorem colV_cells {B : Nat} {L : List AEnt} : cellsOf (colV B L) = some [colV B L] := by
  unfold colV
  split <;> rfl
/-- The append of one number more. -/
theorem app_col {B : Nat} {L : List AEnt} {e : AEnt} {id : Nat} (hc : ColAt S B L) (h0 : L = [] → B = S.next) (hr : S.h.get id = some (.row [.int .u64 (keyN e : Int)] 0 0 false 38)) (hn : L.length < 1048576) :
    ∃ T, builtinV C0 S .append [88, 88] [colV B L, .slice id 0 0 1 1 1 (some 1)] = .val (colV B (L ++ [e])) T ∧ ColAt T B (L ++ [e]) ∧ (∀ i, i ≠ B → T.h.get i = S.h.get i) ∧ S.next ≤ T.next ∧ (L = [] → T.next = S.next + 1) := by
  have hun : ∀ v x, builtinV C0 S .append [88, 88] [v, x] = vals? (appendV S 38 1 8 v x) 4 := fun v x => append_un (cx := C0) (ts := []) (p := (38, 1, 8)) (z := 0) st88 un88 rfl rfl
  have hrd : rd S id 0 0 1 1 = some [.int .u64 (keyN e : Int)] := by rw [rd_at, hr, rdO_row]; simp
  have htk : taken S 1 (.slice id 0 0 1 1 1 (some 1)) = some (1, [.int .u64 (keyN e : Int)]) := by
    show (match rd S id 0 0 (Nat.mul 1 1) 1 with | some l => some (1, l) | none => none) = _
    rw [show Nat.mul 1 1 = 1 from rfl, hrd]
  cases L with
  | nil =>
    obtain rfl := h0 rfl
    refine ⟨⟨S.h.set S.next (.row [.int .u64 (keyN e : Int)] 0 0 false 38), S.next + 1⟩, ?_, .inr (get_set_same _ _ _), fun i hi => get_set_ne _ _ hi, Nat.le_succ _, fun _ => rfl⟩
    rw [hun]
    have : appendV S 38 1 8 (colV S.next []) (.slice id 0 0 1 1 1 (some 1)) = some (grown S 38 1 1 [.int .u64 (keyN e : Int)]) := by
      unfold appendV
      rw [htk]
      show cond (fits 1 8) _ _ = _
      rw [show fits 1 8 = true from by decide]
      rfl
    rw [this]
    rfl
  | cons a L =>
    have hrow : S.h.get B = some (.row (keysL (a :: L)) 0 L.length false 38) := by
      rcases hc with h | h
      · cases h
      · exact h
    have hlk : (keysL (a :: L)).length = L.length + 1 := by simp [keysL]
    have hkk : keysL (a :: L) ++ [.int .u64 (keyN e : Int)] = keysL (a :: L ++ [e]) := by simp [keysL]
    refine ⟨⟨S.h.set B (.row (keysL (a :: L ++ [e])) 0 (L.length + 1) false 38), S.next⟩, ?_, .inr ?_, fun i hi => get_set_ne _ _ hi, Nat.le_refl _, fun h => by cases h⟩
    · rw [hun]
      have hf : fits (L.length + 1 + 1) 8 = true := by
        simp only [List.length_cons] at hn
        unfold fits
        simp only [nble, Bool.and_eq_true, decide_eq_true_eq]
        refine ⟨by omega, ?_⟩
        show (L.length + 1 + 1) * 8 ≤ _
        omega
      have : appendV S 38 1 8 (.slice B L.length 0 (L.length + 1) (L.length + 1) 1 none) (.slice id 0 0 1 1 1 (some 1)) = some (.slice B (L.length + 1) 0 (L.length + 1 + 1) (L.length + 1 + 1) 1 none, ⟨S.h.set B (.row (keysL (a :: L ++ [e])) 0 (L.length + 1) false 38), S.next⟩) := by
        unfold appendV
        rw [htk]
        simp only [nbeq, decide_true, cond_true, hrow, nble, Nat.zero_le, Nat.le_refl, Bool.and_self, forceN_eq, Nat.add_eq, hf, Bool.not_true, Bool.or_self, cond_false, lenL_eq, hlk, Nat.mul_eq, Nat.mul_one, appL_eq, hkk]
      show vals? (appendV S 38 1 8 (.slice B L.length 0 (L.length + 1) (L.length + 1) 1 none) _) 4 = _
      rw [this]
      show AR.val _ _ = _
      unfold colV
      simp
    · show (S.h.set B _).get B = _
      rw [get_set_same]
      simp
theorem round223 {lp xb B : Nat} {F : Fr} {L : List AEnt} {e : AEnt} {K : AV → AS → Prop} (hlp : S.h.get lp = some (.oth (.loop .ready none F #[7] cA cB))) (hF : sl F 2 = .ptr xb 0 0 1) (hn : F.n = 13)
    (hxb : S.h.get xb = some (.row [colV B L] 0 0 false 88)) (hc : ColAt S B L) (h0 : L = [] → B = S.next + 1) (h1 : L ≠ [] → B < S.next) (hx : xb < S.next) (hl : lp < S.next) (hlx : lp ≠ xb) (hBx : B ≠ xb) (hBl : B ≠ lp) (hlen : L.length < 1048576)
    (hK : ∀ T, T.h.get lp = some (.oth (.loop .ready none F #[7] cA cB)) → T.h.get xb = some (.row [colV B (L ++ [e])] 0 0 false 88) → ColAt T B (L ++ [e]) → B < T.next → S.next ≤ T.next → (∀ id, id < S.next → id ≠ lp → id ≠ xb → id ≠ B → T.h.get id = S.h.get id) → K (.bool true) T) :
    RoundE C0 lp [.int .u64 (keyN e : Int)] S K := by
  refine roundE_of (F1 := up ⟨F.t, F.n, []⟩ (some 7) (.int .u64 (keyN e : Int))) hlp ?_ (by rw [n_up]; show codeOk C0 F.n cA = true; rw [hn]; kernel_rfl) (by rw [n_up]; show codeOk C0 F.n cB = true; rw [hn]; kernel_rfl) ?_
  · show putL ⟨F.t, F.n, []⟩ [7] [_] = _
    unfold putL
    simp [putD_some, hn, up, show Nat.blt 7 13 = true from rfl]
  obtain ⟨G, hG⟩ : ∃ G : Fr, G = ⟨F.t, F.n, []⟩ := ⟨_, rfl⟩
  have g2 : sl G 2 = .ptr xb 0 0 1 := by rw [hG]; exact hF
  rw [← hG]
  unfold cA
  simp
  refine ⟨none, F, cA, cB, hlp, ?_⟩
  obtain ⟨S0, hS0⟩ : ∃ S0 : AS, S0 = setO S lp (.loop .busy none F #[7] cA cB) := ⟨_, rfl⟩
  rw [← hS0]
  have n0 : S0.next = S.next := by rw [hS0]; rfl
  have lp0 : S0.h.get lp = some (.oth (.loop .busy none F #[7] cA cB)) := by rw [hS0]; exact get_set_same _ _ _
  have o0 : ∀ id, id ≠ lp → S0.h.get id = S.h.get id := fun id h => by rw [hS0]; exact get_set_ne _ _ h
  clear hS0
  have xb0 := (o0 xb (Ne.symm hlx)).trans hxb
  obtain ⟨S1, hS1⟩ : ∃ S1 : AS, S1 = ⟨S0.h.set S0.next (.row [.int .u64 (keyN e : Int)] 0 0 false 38), S0.next + 1⟩ := ⟨_, rfl⟩
  have n1 : S1.next = S.next + 1 := by rw [hS1, ← n0]
  have r1 : S1.h.get S0.next = some (.row [.int .u64 (keyN e : Int)] 0 0 false 38) := by rw [hS1]; exact get_set_same _ _ _
  have o1 : ∀ id, id ≠ S.next → S1.h.get id = S0.h.get id := fun id h => by rw [hS1]; exact get_set_ne _ _ (by rw [n0]; exact h)
  have bS1 := hS1.symm
  clear hS1
  have hc1 : ColAt S1 B L := by
    rcases hc with h | h
    · exact .inl h
    · by_cases hL : L = []
      · exact .inl hL
      · exact .inr (by have := h1 hL; rw [o1 _ (by omega), o0 _ hBl]; exact h)
  obtain ⟨S2, e2, c2, o2, n2, hnx⟩ := app_col (e := e) hc1 (fun h => by rw [n1]; exact h0 h) r1 hlen
  have xb2 : S2.h.get xb = some (.row [colV B L] 0 0 false 88) := by rw [o2 _ (Ne.symm hBx), o1 _ (by omega)]; exact xb0
  have hfr : ∀ F : Fr, sl F 9 = .int .u64 (keyN e : Int) → freshV C0 F S0.next (.buildSlice 88 1 #[(0, .tmp 9)]) = some (.slice S0.next 0 0 1 1 1 (some 1), .row [.int .u64 (keyN e : Int)] 0 0 false 38) := by
    intro F h
    exact freshV_one st88 rfl (by rw [eval_tmp, h]; rfl)
  conv => arg 2; unfold cB
  simp [g2, xb0, hfr, bS1, e2, xb2, colV_cells]
  refine ⟨.busy, none, F, #[7], cA, cB, ?_, hK _ ?_ ?_ ?_ ?_ ?_ ?_⟩
  · rw [if_neg hlx, o2 _ (Ne.symm hBl), o1 _ (by omega)]; exact lp0
  · exact get_set_same _ _ _
  · show ((S2.h.set xb _).set lp _).get xb = _
    rw [get_set_ne _ _ (Ne.symm hlx), get_set_same]
  · rcases c2 with h | h
    · exact .inl h
    · refine .inr ?_
      show ((S2.h.set xb _).set lp _).get B = _
      rw [get_set_ne _ _ hBl, get_set_ne _ _ hBx]; exact h
  · show B < S2.next
    by_cases hL : L = []
    · have := hnx hL; have := h0 hL; omega
    · have := h1 hL; omega
  · show S.next ≤ S2.next
    omega
  · intro id q1 q2 q3 q4
    show ((S2.h.set xb _).set lp _).get id = _
    rw [get_set_ne _ _ q2, get_set_ne _ _ q3, o2 _ q4, o1 _ (by omega), o0 _ q2]
def keysH (P : AS) (F : Fr) (lp xb it mi clock B : Nat) (es : List AEnt) (k : Nat) (F' : Fr) (S' : AS) : Prop :=
  ∃ L R : List AEnt, (L ++ R).Perm es ∧ S'.h.get it = some (.oth (.iter (some mi) clock (L.map (·.born)).reverse clock)) ∧ S'.h.get lp = some (.oth (.loop .ready none F #[7] cA cB)) ∧ S'.h.get xb = some (.row [colV B L] 0 0 false 88) ∧ ColAt S' B L ∧
    (L = [] → S'.next = P.next + 1) ∧ (L ≠ [] → B < S'.next) ∧ P.next + 1 ≤ S'.next ∧ (∀ id, id < P.next → id ≠ lp → id ≠ xb → S'.h.get id = P.h.get id) ∧ sl F' 0 = .obj .yld lp ∧ sl F' 5 = .ptr it 0 0 0 ∧ F'.n = 14 ∧ F'.ds = [] ∧ k = R.length
set_option maxRecDepth 20000 in
set_option maxHeartbeats 1000000 in
theorem keys155 {P : AS} {F : Fr} {bx mi clock lp xb : Nat} {es : List AEnt} (hb : P.h.get bx = some (.row [.map mi] 0 0 false 75)) (hm : P.h.get mi = some (.map es clock)) (hw : MapWf es clock) (hk : ∀ e, e ∈ es → e.key = .int .u64 (keyN e : Int))
    (hbl : bx < P.next) (hml : mi < P.next) (hxl : xb < P.next) (hll : lp < P.next) (hlx : lp ≠ xb) (hlm : mi ≠ lp) (hxm : mi ≠ xb) (hF : sl F 2 = .ptr xb 0 0 1) (hFn : F.n = 13)
    (hlp : P.h.get lp = some (.oth (.loop .ready none F #[7] cA cB))) (hxb : P.h.get xb = some (.row [.nils] 0 0 false 88)) (hn : es.length ≤ 1048576) :
    CallE C0 155 [.obj .yld lp, .ptr bx 0 0 1] P fun v T => ∃ L : List AEnt, L.Perm es ∧ T.h.get lp = some (.oth (.loop .ready none F #[7] cA cB)) ∧ T.h.get xb = some (.row [colV (P.next + 2) L] 0 0 false 88) ∧ ColAt T (P.next + 2) L ∧
      (L ≠ [] → P.next + 2 < T.next) ∧ P.next + 1 ≤ T.next ∧ ∀ id, id < P.next → id ≠ lp → id ≠ xb → T.h.get id = P.h.get id := by
  have un75 : und C0 75 = some (.map 38 66) := by kernel_rfl
  have hn155 : Tryz.f155.ntmps = 14 := by kernel_rfl
  refine enterE (pu0 _) (pr0 _ rfl) fn155 rfl ok155 (by simp) fun F1 hn' hd hs => ?_
  rw [hn155] at hn'
  have s0 := hs 0
  have s1 := hs 1
  clear hs
  simp only [List.getElem?_cons_zero, List.getElem?_cons_succ, Option.getD_some] at s0 s1
  have e0 := rangeV_map (cx := C0) (S := P) un75 hm
  simp [s0, s1, hb, e0]
  refine loopE_of (keysH P F lp xb P.next mi clock (P.next + 2) es) es.length ⟨[], es, List.Perm.refl _, get_set_same _ _ _, (get_set_ne _ _ (by omega)).trans hlp, (get_set_ne _ _ (by omega)).trans hxb, .inl rfl, fun _ => rfl, fun h => absurd rfl h, Nat.le_refl _,
    fun id h1 _ _ => get_set_ne _ _ (by omega), by simp [s0], by simp, by simp [hn'], by simp [ds_up, hd], rfl⟩ ?_
  rintro k F' S' hF' ⟨L, R, hp, hit, hlp', hxb', hc, h0, h1, hnx, hsame, t0, t5, hn2, hds, hkR⟩
  clear hF' s0 s1 e0
  have hm' : S'.h.get mi = some (.map es clock) := by rw [hsame mi hml hlm hxm]; exact hm
  obtain ⟨hne, hall⟩ := nextM_cases (S := S') (id := P.next) (m := mi) (seen := (L.map (·.born)).reverse) hw
  have hnv := nextV_map (l := 0) hit hm'
  have hpw : (L ++ R).Pairwise fun a b => a.born ≠ b.born := (hp.pairwise_iff (fun h => Ne.symm h)).2 hw.2
  simp [t5, hnv, runE_many]
  refine ⟨hne, fun v T hy => ?_⟩
  rcases hall _ hy with ⟨hye, hend⟩ | ⟨e, he, hes, hye⟩
  · cases hye
    have hR : R = [] := by
      cases R with
      | nil => rfl
      | cons r R =>
        exfalso
        have hr := hend r (hp.mem_iff.1 (by simp))
        simp only [List.mem_reverse, List.mem_map] at hr
        obtain ⟨z, hz, hzr⟩ := hr
        exact (List.pairwise_append.1 hpw).2.2 z hz r (List.mem_cons_self ..) hzr
    subst hR
    rw [List.append_nil] at hp
    simp
    show leaveE C0 Tryz.f155 _ _ (up (up F' _ _) _ _).ds S'
    rw [ds_up, ds_up, hds]
    exact ⟨rfl, L, hp, hlp', hxb', hc, fun h => h1 h, hnx, hsame⟩
  · unfold Am.stepE at hye
    cases hye
    obtain ⟨R1, R2, rfl⟩ : ∃ R1 R2, R = R1 ++ e :: R2 := List.append_of_mem (by
      rcases List.mem_append.1 (hp.mem_iff.2 he) with h | h
      · exact absurd (List.mem_reverse.2 (List.mem_map.2 ⟨e, h, rfl⟩)) hes
      · exact h)
    obtain ⟨S2, hS2⟩ : ∃ S2 : AS, S2 = ⟨S'.h.set P.next (.oth (.iter (some mi) clock (e.born :: (L.map (·.born)).reverse) clock)), S'.next⟩ := ⟨_, rfl⟩
    have n2 : S2.next = S'.next := by rw [hS2]
    have i2 : S2.h.get P.next = some (.oth (.iter (some mi) clock (e.born :: (L.map (·.born)).reverse) clock)) := by rw [hS2]; exact get_set_same _ _ _
    have o2 : ∀ id, id ≠ P.next → S2.h.get id = S'.h.get id := fun id h => by rw [hS2]; exact get_set_ne _ _ h
    have bS2 := hS2.symm
    clear hS2
    have hev := entryV_map (l := 0) i2 ((o2 mi (by omega)).trans hm') hw.2 he rfl
    have hke := hk e he
    have hlen : L.length < 1048576 := by
      have := hp.length_eq
      simp at this
      omega
    have hc2 : ColAt S2 (P.next + 2) L := by
      rcases hc with h | h
      · exact .inl h
      · exact .inr ((o2 _ (by omega)).trans h)
    simp [t0, t5, bS2, hev, hke]
    refine round223 (B := P.next + 2) ((o2 lp (by omega)).trans hlp') hF hFn ((o2 xb (by omega)).trans hxb') hc2 (fun h => by rw [n2, h0 h]) (fun h => by rw [n2]; exact h1 h) (by omega) (by omega) hlx (by omega) (by omega) hlen ?_
    intro T g1 g2 g3 g4 g5 g6
    simp [t0, t5]
    refine ⟨(R1 ++ R2).length, by rw [hkR]; simp, L ++ [e], R1 ++ R2, ?_, ?_, g1, g2, g3, fun h => by simp at h, fun _ => g4, by omega, fun id q1 q2 q3 => ?_, by simp [t0], by simp [t5], by simp [hn2], by simp [ds_up, hds], rfl⟩
    · refine List.Perm.trans ?_ hp
      simp only [List.append_assoc]
      refine List.Perm.append_left L ?_
      show (e :: (R1 ++ R2)).Perm _
      exact List.perm_middle.symm
    · rw [g6 _ (by omega) (by omega) (by omega) (by omega), i2]
      simp
    · rw [g6 id (by omega) q2 q3 (by omega), o2 id (by omega)]
      exact hsame id q1 q2 q3
set_option maxRecDepth 20000 in
set_option maxHeartbeats 1000000 in
theorem append223 {bx mi clock : Nat} {es : List AEnt} (hb : S.h.get bx = some (.row [.map mi] 0 0 false 75)) (hm : S.h.get mi = some (.map es clock)) (hw : MapWf es clock) (hk : ∀ e, e ∈ es → e.key = .int .u64 (keyN e : Int))
    (hl : bx < S.next) (hml : mi < S.next) (hn : es.length ≤ 1048576) :
    CallE C0 223 [.nils, .func (.func 155) [] [.ptr bx 0 0 1]] S fun v T => ∃ L : List AEnt, L.Perm es ∧ v = colV (S.next + 5) L ∧ ColAt T (S.next + 5) L ∧ Sub S T ∧ (L ≠ [] → S.next + 5 < T.next) := by
  refine enterE (pu0 _) (pr0 _ rfl) fn223 rfl ok223 (by simp) fun F hn' hd hs => ?_
  have s0 := hs 0
  have s1 := hs 1
  clear hs
  simp only [List.getElem?_cons_zero, List.getElem?_cons_succ, Option.getD_some] at s0 s1
  have hn223 : Tryz.f223.ntmps = 13 := by kernel_rfl
  rw [hn223] at hn'
  simp [s0, s1]
  obtain ⟨G, hG⟩ : ∃ G : Fr, G = up (up (up F (some 2) (.ptr S.next 0 0 1)) (some 4) .nils) (some 6) (.func (.func 155) [] [.ptr bx 0 0 1]) := ⟨_, rfl⟩
  have g2 : sl G 2 = .ptr S.next 0 0 1 := by rw [hG]; simp
  have g6 : eval G (.tmp 6) = .func (.func 155) [] [.ptr bx 0 0 1] := by rw [hG]; simp
  have gn : G.n = 13 := by rw [hG]; simp [hn']
  have gd : G.ds = [] := by rw [hG]; simp [ds_up, hd]
  rw [← hG]
  clear hG s0 s1
  show RangeE C0 (.tmp 6) #[7] cA cB G _ _
  refine ⟨by kernel_rfl, 155, [], [.ptr bx 0 0 1], g6, ?_⟩
  obtain ⟨P, hP⟩ : ∃ P : AS, P = ⟨((S.h.set S.next (.row [.nils] 0 0 false 88)).set (S.next + 1) (.oth (.dfr true))).set (S.next + 2) (.oth (.loop .ready none G #[7] cA cB)), S.next + 3⟩ := ⟨_, rfl⟩
  have nP : P.next = S.next + 3 := by rw [hP]
  have pl : P.h.get (S.next + 2) = some (.oth (.loop .ready none G #[7] cA cB)) := by rw [hP]; exact get_set_same _ _ _
  have pd : P.h.get (S.next + 1) = some (.oth (.dfr true)) := by rw [hP]; exact (get_set_ne _ _ (by omega)).trans (get_set_same _ _ _)
  have px : P.h.get S.next = some (.row [.nils] 0 0 false 88) := by rw [hP]; exact ((get_set_ne _ _ (by omega)).trans (get_set_ne _ _ (by omega))).trans (get_set_same _ _ _)
  have po : ∀ id, id < S.next → P.h.get id = S.h.get id := fun id h => by rw [hP]; exact ((get_set_ne _ _ (by omega)).trans (get_set_ne _ _ (by omega))).trans (get_set_ne _ _ (by omega))
  have bP : (⟨((S.h.set S.next (.row [.nils] 0 0 false 88)).set (S.next + 1) (.oth (.dfr true))).set (S.next + 2) (.oth (.loop .ready none G #[7] cA cB)), S.next + 3⟩ : AS) = P := hP.symm
  clear hP
  show CallE C0 155 [.obj .yld (S.next + 2), .ptr bx 0 0 1] (⟨((S.h.set S.next (.row [.nils] 0 0 false 88)).set (S.next + 1) (.oth (.dfr true))).set (S.next + 2) (.oth (.loop .ready none G #[7] cA cB)), S.next + 3⟩ : AS) _
  rw [bP]
  refine CallE.mono (keys155 (F := G) (xb := S.next) ((po _ hl).trans hb) ((po _ hml).trans hm) hw hk (by omega) (by omega) (by omega) (by omega) (by omega) (by omega) (by omega) g2 gn pl px hn) ?_
  rintro v T ⟨L, hp, q1, q2, q3, q4, q5, q6⟩
  rw [nP] at q2 q3 q4 q5 q6
  refine ⟨.ready, G, #[7], cA, cB, by simp, q1, ?_⟩
  generalize hH : (⟨G.t, G.n, _⟩ : Fr) = H
  generalize hU : setO T _ _ = U
  have h2 : sl H 2 = .ptr S.next 0 0 1 := by rw [← hH]; exact g2
  have hds : H.ds = [.mark (S.next + 1)] := by rw [← hH, gd]
  have uo : ∀ id, id ≠ S.next + 2 → U.h.get id = T.h.get id := fun id h => by rw [← hU]; exact get_set_ne _ _ h
  have un : U.next = T.next := by rw [← hU]; rfl
  clear hH hU
  have ux := (uo S.next (by omega)).trans q2
  have ud : U.h.get (S.next + 1) = some (.oth (.dfr true)) := by rw [uo _ (by omega), q6 _ (by omega) (by omega) (by omega)]; exact pd
  simp [h2, ux]
  show leaveE C0 Tryz.f223 _ _ (up (up H _ _) _ _).ds U
  rw [ds_up, ds_up, hds]
  refine ⟨ud, ?_⟩
  have hres : resL C0 (up (up H (some 12) (colV (S.next + 5) L)) (some 4) (colV (S.next + 5) L)) (setO U (S.next + 1) (.dfr false)) Tryz.f223.results.toList = some [colV (S.next + 5) L] := by
    rw [show Tryz.f223.results.toList = [.tmp 4] from by kernel_rfl, resL_tmp, resL_nil]
    simp
  show endP (Option.map _ _) _ _
  rw [hres]
  have hnp : isPanB (colV (S.next + 5) L) = false := by unfold colV; split <;> rfl
  refine ⟨hnp, L, hp, rfl, ?_, ⟨fun id hid => ?_, ?_⟩, fun h => ?_⟩
  · rcases q3 with h | h
    · exact .inl h
    · refine .inr ?_
      show (U.h.set (S.next + 1) _).get _ = _
      rw [get_set_ne _ _ (by omega), uo _ (by omega)]
      exact h
  · show (U.h.set (S.next + 1) _).get _ = _
    rw [get_set_ne _ _ (by omega), uo _ (by omega), q6 _ (by omega) (by omega) (by omega)]
    exact po _ hid
  · show S.next ≤ U.next
    omega
  · show S.next + 5 < U.next
    have := q4 h
    omega
theorem colAt_num {T : AS} {B : Nat} {L : List AEnt} (h : ColAt T B L) (hn : L ≠ [] → B < T.next) : NumAt T (colV B L) (L.map keyN).toArray := by
  have hk : numL (L.map keyN).toArray.toList = keysL L := by simp [numL, keysL, Function.comp_def]
  cases L with
  | nil => exact ⟨Gw.nil, fun id cells low top frz ty hb hr => by simp [colV, bnd] at hb⟩
  | cons e L =>
    have hrow : T.h.get B = some (.row (keysL (e :: L)) 0 L.length false 38) := by
      rcases h with h | h
      · cases h
      · exact h
    have hlk : (keysL (e :: L)).length = L.length + 1 := by simp [keysL]
    refine ⟨?_, fun id cells low top frz ty hb hr => ?_⟩
    · rw [hk]
      exact Own.gw (lo := 0) (.inr ⟨B, L.length, 0, L.length + 1, by simp [colV], Nat.zero_le _, hn (by simp), hrow, Nat.zero_le _, by rw [hlk]; simp⟩)
    · have hb' : B + 1 = id + 1 := by simpa [colV, bnd] using hb
      obtain rfl : B = id := by omega
      rw [hrow] at hr
      cases hr
      rw [hlk]; simp
theorem perm_of {d d' : Array Nat} (h : Sort.PermIn 0 d.size d d') : d'.toList.Perm d.toList := by
  obtain ⟨h1, _, h3⟩ := h
  have e1 : d.extract 0 d.size = d := by simp
  have e2 : d'.extract 0 d.size = d' := by rw [← h1]; simp
  rw [e1, e2] at h3
  exact h3
theorem sorted_of {d : Array Nat} (h : Sort.SortedIn ltN 0 d.size d) : d.toList.Pairwise (· ≤ ·) := by
  rw [List.pairwise_iff_getElem]
  intro i j hi hj hij
  simp only [Array.length_toList] at hi hj
  have := h i j (Nat.zero_le _) hij hj
  rw [getElem!_pos d i hi, getElem!_pos d j hj] at this
  simp only [ltN, decide_eq_false_iff_not] at this
  simp only [Array.getElem_toList]
  omega
theorem collect154 {bx mi clock : Nat} {es : List AEnt} (hb : S.h.get bx = some (.row [.map mi] 0 0 false 75)) (hm : S.h.get mi = some (.map es clock)) (hw : MapWf es clock) (hk : ∀ e, e ∈ es → e.key = .int .u64 (keyN e : Int))
    (hl : bx < S.next) (hml : mi < S.next) (hn : es.length ≤ 1048576) :
    CallE C0 154 [.func (.func 155) [] [.ptr bx 0 0 1]] S fun v T => ∃ L : List AEnt, L.Perm es ∧ v = colV (S.next + 5) L ∧ ColAt T (S.next + 5) L ∧ Sub S T ∧ (L ≠ [] → S.next + 5 < T.next) := by
  refine enterE (pu0 _) (pr0 _ rfl) fn154 rfl ok154 (by simp) fun F hn' hd hs => ?_
  have s0 := hs 0
  clear hs
  simp only [List.getElem?_cons_zero, Option.getD_some] at s0
  simp [s0, ex0]
  refine CallE.mono (append223 hb hm hw hk hl hml hn) ?_
  rintro v T ⟨L, h1, rfl, h2⟩
  simp
  show leaveE C0 Tryz.f154 _ _ (Fr.ds _) T
  simp only [ds_up, hd]
  have hres : ∀ F : Fr, sl F 2 = colV (S.next + 5) L → resL C0 F T Tryz.f154.results.toList = some [colV (S.next + 5) L] := by
    intro F h
    rw [show Tryz.f154.results.toList = [.tmp 2] from by kernel_rfl, resL_tmp, resL_nil, h]
    rfl
  show endP (Option.map _ _) _ _
  rw [hres _ (by simp)]
  have hnp : isPanB (colV (S.next + 5) L) = false := by unfold colV; split <;> rfl
  exact ⟨hnp, L, h1, rfl, h2⟩
theorem fn93 : C0.fns.get 93 = some Tryz.f93 := by kernel_rfl
theorem ok93 : codeOk C0 Tryz.f93.ntmps (Tryz.f93.body.getD .skip) = true := by kernel_rfl
theorem sorted93 {bx mi clock : Nat} {es : List AEnt} (hb : S.h.get bx = some (.row [.map mi] 0 0 false 75)) (hm : S.h.get mi = some (.map es clock)) (hw : MapWf es clock) (hk : ∀ e, e ∈ es → e.key = .int .u64 (keyN e : Int))
    (hl : bx < S.next) (hml : mi < S.next) (hn : es.length ≤ 1048576) :
    CallE C0 93 [.func (.func 155) [] [.ptr bx 0 0 1]] S fun v T => ∃ d : Array Nat, d.toList.Perm (es.map keyN) ∧ d.toList.Pairwise (· ≤ ·) ∧ Sub S T ∧
      ((d.size = 0 ∧ v = .nils) ∨ (0 < d.size ∧ v = .slice (S.next + 5) (d.size - 1) 0 d.size d.size 1 none ∧ (∃ low, low ≤ d.size - 1 ∧ T.h.get (S.next + 5) = some (.row (numL d.toList) low (d.size - 1) false 38)) ∧ S.next + 5 < T.next)) := by
  refine enterE (pu0 _) (pr0 _ rfl) fn93 rfl ok93 (by simp) fun F hn' hd hs => ?_
  have s0 := hs 0
  clear hs
  simp only [List.getElem?_cons_zero, Option.getD_some] at s0
  simp [s0, ex0]
  refine CallE.mono (collect154 hb hm hw hk hl hml hn) ?_
  rintro v T ⟨L, h1, rfl, h2, h3, h4⟩
  have hLn : L.length ≤ 1048576 := by rw [h1.length_eq]; exact hn
  have hnum := colAt_num h2 h4
  simp [ex0]
  refine CallE.mono (sort_sort hnum (by simpa using hLn)).each ?_
  rintro r T2 ⟨rfl, d', p1, p2, p3, p4⟩
  have hsz : d'.size = L.length := by have := p1.1; simpa using this
  simp
  show leaveE C0 Tryz.f93 _ _ (Fr.ds _) T2
  simp only [ds_up, hd]
  have hres : ∀ F : Fr, sl F 2 = colV (S.next + 5) L → resL C0 F T2 Tryz.f93.results.toList = some [colV (S.next + 5) L] := by
    intro F h
    rw [show Tryz.f93.results.toList = [.tmp 2] from by kernel_rfl, resL_tmp, resL_nil, h]
    rfl
  show endP (Option.map _ _) _ _
  rw [hres _ (by simp)]
  have hnp : isPanB (colV (S.next + 5) L) = false := by unfold colV; split <;> rfl
  have hperm := perm_of p1
  have hS2 : Sub S T2 := ⟨fun id hid => by
    rw [p4.h id (by have := h3.next; omega) (by unfold colV; split <;> simp [bnd]; omega)]
    exact h3.h id hid, Nat.le_trans h3.next p4.next⟩
  refine ⟨hnp, d', hperm.trans (by simpa using h1.map keyN), sorted_of (by rw [hsz]; simpa using p2), hS2, ?_⟩
  cases L with
  | nil => exact .inl ⟨Array.eq_empty_of_size_eq_zero hsz, rfl⟩
  | cons e L =>
    refine .inr ⟨by rw [hsz]; simp, by rw [hsz]; rfl, ?_, ?_⟩
    · obtain ⟨g1, g2⟩ := p3.gw
      rcases g2 with h | ⟨id, g, off, n, lim, cap, q1, q2, q3, cells, low, top, q4, q5, q6⟩
      · simp [colV] at h
      · have q1' : AV.slice (S.next + 5) L.length 0 (L.length + 1) (L.length + 1) 1 none = .slice id g off n lim 1 cap := q1
        cases q1'
        have hcl := p3.whole (S.next + 5) cells low top false 38 (by simp [colV, bnd]) q4
        have hr := g1.rd
        have hcells : cells = numL d'.toList := by
          simp only [colV, List.length_cons, rdS, rd_at, q4, rdO_row] at hr
          rw [if_pos (by omega)] at hr
          simp only [Option.some.injEq, List.drop_zero, Nat.mul_one] at hr
          rw [← hr, List.take_of_length_le (by rw [hcl, hsz]; simp)]
        refine ⟨low, ?_, ?_⟩
        · rw [hsz]; simp; omega
        · rw [q4, hcells, hsz, ← q6]; simp
    · have := h4 (by simp)
      have := p4.next
      omega
end
end Go.Proofs.YtgeghppdhjlbiaaGreatDoor.mod

namespace Go.Proofs.YtgeghppdhjlbiaaGreatDoor.modb
open Go Go.Am Go.Proofs.YtgeghppdhjlbiaaGreatDoor.mod
set_option linter.unusedVariables false
set_option linter.unusedSimpArgs false

@[simp] theorem ag153 : aggOf C0 153 = some false := by kernel_rfl
@[simp] theorem sz153 : szOf C0 153 = some 1 := by kernel_rfl
attribute [local simp] callV_yld aop_range aop_next aop_entry
theorem fn223 : C0.fns.get 223 = some Tryz.f223 := by kernel_rfl
theorem ok223 : codeOk C0 Tryz.f223.ntmps (Tryz.f223.body.getD .skip) = true := by kernel_rfl
theorem fn202 : C0.fns.get 202 = some Tryz.f202 := by kernel_rfl
theorem ok202 : codeOk C0 Tryz.f202.ntmps (Tryz.f202.body.getD .skip) = true := by kernel_rfl
theorem fn154 : C0.fns.get 154 = some Tryz.f154 := by kernel_rfl
theorem ok154 : codeOk C0 Tryz.f154.ntmps (Tryz.f154.body.getD .skip) = true := by kernel_rfl
/-- The body of AppendSeq's range over a function. -/
noncomputable def cA : Code := Code.region 2
      #[{ dst := some 5, op := Op.assign (Operand.tmp 7), type := 38, pos := "iter.go:51", after := #[],
          guard := none }]
      false
noncomputable def cB : Code := (Code.block 1
      (Code.region 3
        #[{ dst := some 8, op := Op.load 88 (Operand.tmp 2), type := 88, pos := "iter.go:52", after := #[],
            guard := none },
          { dst := some 9, op := Op.move (Operand.tmp 5), type := 38, pos := "iter.go:52", after := #[],
            guard := none },
          { dst := some 10, op := Op.buildSlice 88 1 #[(0, Operand.tmp 9)], type := 88, pos := "iter.go:52",
            after := #[{ on := 1, ground := Ground.data }], guard := none },
          { dst := some 11,
            op :=
              Op.call
                { callee := Callee.builtin Builtin.append, args := #[Operand.tmp 8, Operand.tmp 10],
                  argTypes := #[88, 88] },
            type := 88, pos := "iter.go:52",
            after := #[{ on := 0, ground := Ground.data }, { on := 2, ground := Ground.data }], guard := none },
          { dst := none, op := Op.store 88 (Operand.tmp 2) (Operand.tmp 11), type := 0, pos := "iter.go:52",
            after :=
              #[{ on := 3, ground := Ground.data }, { on := 3, ground := Ground.chain },
                { on := 0, ground := Ground.phase }, { on := 1, ground := Ground.phase },
                { on := 2, ground := Ground.phase }, { on := 3, ground := Ground.phase }],
            guard := none }]
        false))
def keyN (e : AEnt) : Nat := match e.key with | .int _ (.ofNat n) => n | _ => 0
def keysL (L : List AEnt) : List AV := L.map fun e => AV.int .u64 (keyN e : Int)
/-- What has been collected of so many entries. -/
def colV (B : Nat) (L : List AEnt) : AV := match L.length with | 0 => .nils | k + 1 => .slice B k 0 (k + 1) (k + 1) 1 none
def ColAt (S : AS) (B : Nat) (L : List AEnt) : Prop := L = [] ∨ S.h.get B = some (.row (keysL L) 0 (L.length - 1) false 38)
section
variable {S : AS}
theorem append_un {cx : Cx} {S : AS} {t u : Nat} {ts : List TypeId} {p : Nat × Nat × Nat} {v x : AV} {d : TypeDesc} {z : Nat} (h : slT cx t = some p) (hu : und cx u = some d) (hd : notInt d = true) (hz : p.2.1 = z + 1) :
    builtinV cx S .append (t :: u :: ts) [v, x] = vals? (appendV S p.1 (z + 1) p.2.2 v x) 4 := by
  obtain ⟨ht, hs, hb, hz', hp⟩ := slT_und h
  obtain ⟨e, sz, bs⟩ := p
  simp only at ht hs hb hz' hz ⊢
  subst hz
  show (match und cx t, und cx u with
      | some (.slice e), some (.int _) => vals? (appZ cx S e v x) 3
      | some (.slice e), some _ => match szOf cx e, bytesOf cx e with
        | some (Nat.succ z), some bs => cond (zeroOk cx e (Nat.succ z)) (vals? (appendV S e (Nat.succ z) bs v x) 4) (AR.err 13)
        | _, _ => AR.err 5
      | _, _ => AR.err 6) = _
  rw [ht, hu]
  cases d <;> first | (cases hd; done) | simp only [hs, hb, hz', cond_true]
theorem colV_cells {B : Nat} {L : List AEnt} : cellsOf (colV B L) = some [colV B L] := by
  unfold colV
  split <;> rfl
/-- The append of one number more. -/
theorem app_col {B : Nat} {L : List AEnt} {e : AEnt} {id : Nat} (hc : ColAt S B L) (h0 : L = [] → B = S.next) (hr : S.h.get id = some (.row [.int .u64 (keyN e : Int)] 0 0 false 38)) (hn : L.length < 1048576) :
    ∃ T, builtinV C0 S .append [88, 88] [colV B L, .slice id 0 0 1 1 1 (some 1)] = .val (colV B (L ++ [e])) T ∧ ColAt T B (L ++ [e]) ∧ (∀ i, i ≠ B → T.h.get i = S.h.get i) ∧ S.next ≤ T.next ∧ (L = [] → T.next = S.next + 1) := by
  have hun : ∀ v x, builtinV C0 S .append [88, 88] [v, x] = vals? (appendV S 38 1 8 v x) 4 := fun v x => append_un (cx := C0) (ts := []) (p := (38, 1, 8)) (z := 0) st88 un88 rfl rfl
  have hrd : rd S id 0 0 1 1 = some [.int .u64 (keyN e : Int)] := by rw [rd_at, hr, rdO_row]; simp
  have htk : taken S 1 (.slice id 0 0 1 1 1 (some 1)) = some (1, [.int .u64 (keyN e : Int)]) := by
    show (match rd S id 0 0 (Nat.mul 1 1) 1 with | some l => some (1, l) | none => none) = _
    rw [show Nat.mul 1 1 = 1 from rfl, hrd]
  cases L with
  | nil =>
    obtain rfl := h0 rfl
    refine ⟨⟨S.h.set S.next (.row [.int .u64 (keyN e : Int)] 0 0 false 38), S.next + 1⟩, ?_, .inr (get_set_same _ _ _), fun i hi => get_set_ne _ _ hi, Nat.le_succ _, fun _ => rfl⟩
    rw [hun]
    have : appendV S 38 1 8 (colV S.next []) (.slice id 0 0 1 1 1 (some 1)) = some (grown S 38 1 1 [.int .u64 (keyN e : Int)]) := by
      unfold appendV
      rw [htk]
      show cond (fits 1 8) _ _ = _
      rw [show fits 1 8 = true from by decide]
      rfl
    rw [this]
    rfl
  | cons a L =>
    have hrow : S.h.get B = some (.row (keysL (a :: L)) 0 L.length false 38) := by
      rcases hc with h | h
      · cases h
      · exact h
    have hlk : (keysL (a :: L)).length = L.length + 1 := by simp [keysL]
    have hkk : keysL (a :: L) ++ [.int .u64 (keyN e : Int)] = keysL (a :: L ++ [e]) := by simp [keysL]
    refine ⟨⟨S.h.set B (.row (keysL (a :: L ++ [e])) 0 (L.length + 1) false 38), S.next⟩, ?_, .inr ?_, fun i hi => get_set_ne _ _ hi, Nat.le_refl _, fun h => by cases h⟩
    · rw [hun]
      have hf : fits (L.length + 1 + 1) 8 = true := by
        simp only [List.length_cons] at hn
        unfold fits
        simp only [nble, Bool.and_eq_true, decide_eq_true_eq]
        refine ⟨by omega, ?_⟩
        show (L.length + 1 + 1) * 8 ≤ _
        omega
      have : appendV S 38 1 8 (.slice B L.length 0 (L.length + 1) (L.length + 1) 1 none) (.slice id 0 0 1 1 1 (some 1)) = some (.slice B (L.length + 1) 0 (L.length + 1 + 1) (L.length + 1 + 1) 1 none, ⟨S.h.set B (.row (keysL (a :: L ++ [e])) 0 (L.length + 1) false 38), S.next⟩) := by
        unfold appendV
        rw [htk]
        simp only [nbeq, decide_true, cond_true, hrow, nble, Nat.zero_le, Nat.le_refl, Bool.and_self, forceN_eq, Nat.add_eq, hf, Bool.not_true, Bool.or_self, cond_false, lenL_eq, hlk, Nat.mul_eq, Nat.mul_one, appL_eq, hkk]
      show vals? (appendV S 38 1 8 (.slice B L.length 0 (L.length + 1) (L.length + 1) 1 none) _) 4 = _
      rw [this]
      show AR.val _ _ = _
      unfold colV
      simp
    · show (S.h.set B _).get B = _
      rw [get_set_same]
      simp
theorem round223 {lp xb B : Nat} {F : Fr} {L : List AEnt} {e : AEnt} {K : AV → AS → Prop} (hlp : S.h.get lp = some (.oth (.loop .ready none F #[7] cA cB))) (hF : sl F 2 = .ptr xb 0 0 1) (hn : F.n = 13)
    (hxb : S.h.get xb = some (.row [colV B L] 0 0 false 88)) (hc : ColAt S B L) (h0 : L = [] → B = S.next + 1) (h1 : L ≠ [] → B < S.next) (hx : xb < S.next) (hl : lp < S.next) (hlx : lp ≠ xb) (hBx : B ≠ xb) (hBl : B ≠ lp) (hlen : L.length < 1048576)
    (hK : ∀ T, T.h.get lp = some (.oth (.loop .ready none F #[7] cA cB)) → T.h.get xb = some (.row [colV B (L ++ [e])] 0 0 false 88) → ColAt T B (L ++ [e]) → B < T.next → S.next ≤ T.next → (∀ id, id < S.next → id ≠ lp → id ≠ xb → id ≠ B → T.h.get id = S.h.get id) → K (.bool true) T) :
    RoundE C0 lp [.int .u64 (keyN e : Int)] S K := by
  refine roundE_of (F1 := up ⟨F.t, F.n, []⟩ (some 7) (.int .u64 (keyN e : Int))) hlp ?_ (by rw [n_up]; show codeOk C0 F.n cA = true; rw [hn]; kernel_rfl) (by rw [n_up]; show codeOk C0 F.n cB = true; rw [hn]; kernel_rfl) ?_
  · show putL ⟨F.t, F.n, []⟩ [7] [_] = _
    unfold putL
    simp [putD_some, hn, up, show Nat.blt 7 13 = true from rfl]
  obtain ⟨G, hG⟩ : ∃ G : Fr, G = ⟨F.t, F.n, []⟩ := ⟨_, rfl⟩
  have g2 : sl G 2 = .ptr xb 0 0 1 := by rw [hG]; exact hF
  rw [← hG]
  unfold cA
  simp
  refine ⟨none, F, cA, cB, hlp, ?_⟩
  obtain ⟨S0, hS0⟩ : ∃ S0 : AS, S0 = setO S lp (.loop .busy none F #[7] cA cB) := ⟨_, rfl⟩
  rw [← hS0]
  have n0 : S0.next = S.next := by rw [hS0]; rfl
  have lp0 : S0.h.get lp = some (.oth (.loop .busy none F #[7] cA cB)) := by rw [hS0]; exact get_set_same _ _ _
  have o0 : ∀ id, id ≠ lp → S0.h.get id = S.h.get id := fun id h => by rw [hS0]; exact get_set_ne _ _ h
  clear hS0
  have xb0 := (o0 xb (Ne.symm hlx)).trans hxb
  obtain ⟨S1, hS1⟩ : ∃ S1 : AS, S1 = ⟨S0.h.set S0.next (.row [.int .u64 (keyN e : Int)] 0 0 false 38), S0.next + 1⟩ := ⟨_, rfl⟩
  have n1 : S1.next = S.next + 1 := by rw [hS1, ← n0]
  have r1 : S1.h.get S0.next = some (.row [.int .u64 (keyN e : Int)] 0 0 false 38) := by rw [hS1]; exact get_set_same _ _ _
  have o1 : ∀ id, id ≠ S.next → S1.h.get id = S0.h.get id := fun id h => by rw [hS1]; exact get_set_ne _ _ (by rw [n0]; exact h)
  have bS1 := hS1.symm
  clear hS1
  have hc1 : ColAt S1 B L := by
    rcases hc with h | h
    · exact .inl h
    · by_cases hL : L = []
      · exact .inl hL
      · exact .inr (by have := h1 hL; rw [o1 _ (by omega), o0 _ hBl]; exact h)
  obtain ⟨S2, e2, c2, o2, n2, hnx⟩ := app_col (e := e) hc1 (fun h => by rw [n1]; exact h0 h) r1 hlen
  have xb2 : S2.h.get xb = some (.row [colV B L] 0 0 false 88) := by rw [o2 _ (Ne.symm hBx), o1 _ (by omega)]; exact xb0
  have hfr : ∀ F : Fr, sl F 9 = .int .u64 (keyN e : Int) → freshV C0 F S0.next (.buildSlice 88 1 #[(0, .tmp 9)]) = some (.slice S0.next 0 0 1 1 1 (some 1), .row [.int .u64 (keyN e : Int)] 0 0 false 38) := by
    intro F h
    exact freshV_one st88 rfl (by rw [eval_tmp, h]; rfl)
  conv => arg 2; unfold cB
  simp [g2, xb0, hfr, bS1, e2, xb2, colV_cells]
  refine ⟨.busy, none, F, #[7], cA, cB, ?_, hK _ ?_ ?_ ?_ ?_ ?_ ?_⟩
  · rw [if_neg hlx, o2 _ (Ne.symm hBl), o1 _ (by omega)]; exact lp0
  · exact get_set_same _ _ _
  · show ((S2.h.set xb _).set lp _).get xb = _
    rw [get_set_ne _ _ (Ne.symm hlx), get_set_same]
  · rcases c2 with h | h
    · exact .inl h
    · refine .inr ?_
      show ((S2.h.set xb _).set lp _).get B = _
      rw [get_set_ne _ _ hBl, get_set_ne _ _ hBx]; exact h
  · show B < S2.next
    by_cases hL : L = []
    · have := hnx hL; have := h0 hL; omega
    · have := h1 hL; omega
  · show S.next ≤ S2.next
    omega
  · intro id q1 q2 q3 q4
    show ((S2.h.set xb _).set lp _).get id = _
    rw [get_set_ne _ _ q2, get_set_ne _ _ q3, o2 _ q4, o1 _ (by omega), o0 _ q2]
def keysH (P : AS) (F : Fr) (lp xb it mi clock B : Nat) (es : List AEnt) (k : Nat) (F' : Fr) (S' : AS) : Prop :=
  ∃ L R : List AEnt, (L ++ R).Perm es ∧ S'.h.get it = some (.oth (.iter (some mi) clock (L.map (·.born)).reverse clock)) ∧ S'.h.get lp = some (.oth (.loop .ready none F #[7] cA cB)) ∧ S'.h.get xb = some (.row [colV B L] 0 0 false 88) ∧ ColAt S' B L ∧
    (L = [] → S'.next = P.next + 1) ∧ (L ≠ [] → B < S'.next) ∧ P.next + 1 ≤ S'.next ∧ (∀ id, id < P.next → id ≠ lp → id ≠ xb → S'.h.get id = P.h.get id) ∧ sl F' 0 = .obj .yld lp ∧ sl F' 5 = .ptr it 0 0 0 ∧ F'.n = 14 ∧ F'.ds = [] ∧ k = R.length
set_option maxRecDepth 20000 in
set_option maxHeartbeats 1000000 in
theorem keys202 {P : AS} {F : Fr} {bx mi clock lp xb : Nat} {es : List AEnt} (hb : P.h.get bx = some (.row [.map mi] 0 0 false 153)) (hm : P.h.get mi = some (.map es clock)) (hw : MapWf es clock) (hk : ∀ e, e ∈ es → e.key = .int .u64 (keyN e : Int))
    (hbl : bx < P.next) (hml : mi < P.next) (hxl : xb < P.next) (hll : lp < P.next) (hlx : lp ≠ xb) (hlm : mi ≠ lp) (hxm : mi ≠ xb) (hF : sl F 2 = .ptr xb 0 0 1) (hFn : F.n = 13)
    (hlp : P.h.get lp = some (.oth (.loop .ready none F #[7] cA cB))) (hxb : P.h.get xb = some (.row [.nils] 0 0 false 88)) (hn : es.length ≤ 1048576) :
    CallE C0 202 [.obj .yld lp, .ptr bx 0 0 1] P fun v T => ∃ L : List AEnt, L.Perm es ∧ T.h.get lp = some (.oth (.loop .ready none F #[7] cA cB)) ∧ T.h.get xb = some (.row [colV (P.next + 2) L] 0 0 false 88) ∧ ColAt T (P.next + 2) L ∧
      (L ≠ [] → P.next + 2 < T.next) ∧ P.next + 1 ≤ T.next ∧ ∀ id, id < P.next → id ≠ lp → id ≠ xb → T.h.get id = P.h.get id := by
  have un153 : und C0 153 = some (.map 38 32) := by kernel_rfl
  have hn202 : Tryz.f202.ntmps = 14 := by kernel_rfl
  refine enterE (pu0 _) (pr0 _ rfl) fn202 rfl ok202 (by simp) fun F1 hn' hd hs => ?_
  rw [hn202] at hn'
  have s0 := hs 0
  have s1 := hs 1
  clear hs
  simp only [List.getElem?_cons_zero, List.getElem?_cons_succ, Option.getD_some] at s0 s1
  have e0 := rangeV_map (cx := C0) (S := P) un153 hm
  simp [s0, s1, hb, e0]
  refine loopE_of (keysH P F lp xb P.next mi clock (P.next + 2) es) es.length ⟨[], es, List.Perm.refl _, get_set_same _ _ _, (get_set_ne _ _ (by omega)).trans hlp, (get_set_ne _ _ (by omega)).trans hxb, .inl rfl, fun _ => rfl, fun h => absurd rfl h, Nat.le_refl _,
    fun id h1 _ _ => get_set_ne _ _ (by omega), by simp [s0], by simp, by simp [hn'], by simp [ds_up, hd], rfl⟩ ?_
  rintro k F' S' hF' ⟨L, R, hp, hit, hlp', hxb', hc, h0, h1, hnx, hsame, t0, t5, hn2, hds, hkR⟩
  clear hF' s0 s1 e0
  have hm' : S'.h.get mi = some (.map es clock) := by rw [hsame mi hml hlm hxm]; exact hm
  obtain ⟨hne, hall⟩ := nextM_cases (S := S') (id := P.next) (m := mi) (seen := (L.map (·.born)).reverse) hw
  have hnv := nextV_map (l := 0) hit hm'
  have hpw : (L ++ R).Pairwise fun a b => a.born ≠ b.born := (hp.pairwise_iff (fun h => Ne.symm h)).2 hw.2
  simp [t5, hnv, runE_many]
  refine ⟨hne, fun v T hy => ?_⟩
  rcases hall _ hy with ⟨hye, hend⟩ | ⟨e, he, hes, hye⟩
  · cases hye
    have hR : R = [] := by
      cases R with
      | nil => rfl
      | cons r R =>
        exfalso
        have hr := hend r (hp.mem_iff.1 (by simp))
        simp only [List.mem_reverse, List.mem_map] at hr
        obtain ⟨z, hz, hzr⟩ := hr
        exact (List.pairwise_append.1 hpw).2.2 z hz r (List.mem_cons_self ..) hzr
    subst hR
    rw [List.append_nil] at hp
    simp
    show leaveE C0 Tryz.f202 _ _ (up (up F' _ _) _ _).ds S'
    rw [ds_up, ds_up, hds]
    exact ⟨rfl, L, hp, hlp', hxb', hc, fun h => h1 h, hnx, hsame⟩
  · unfold Am.stepE at hye
    cases hye
    obtain ⟨R1, R2, rfl⟩ : ∃ R1 R2, R = R1 ++ e :: R2 := List.append_of_mem (by
      rcases List.mem_append.1 (hp.mem_iff.2 he) with h | h
      · exact absurd (List.mem_reverse.2 (List.mem_map.2 ⟨e, h, rfl⟩)) hes
      · exact h)
    obtain ⟨S2, hS2⟩ : ∃ S2 : AS, S2 = ⟨S'.h.set P.next (.oth (.iter (some mi) clock (e.born :: (L.map (·.born)).reverse) clock)), S'.next⟩ := ⟨_, rfl⟩
    have n2 : S2.next = S'.next := by rw [hS2]
    have i2 : S2.h.get P.next = some (.oth (.iter (some mi) clock (e.born :: (L.map (·.born)).reverse) clock)) := by rw [hS2]; exact get_set_same _ _ _
    have o2 : ∀ id, id ≠ P.next → S2.h.get id = S'.h.get id := fun id h => by rw [hS2]; exact get_set_ne _ _ h
    have bS2 := hS2.symm
    clear hS2
    have hev := entryV_map (l := 0) i2 ((o2 mi (by omega)).trans hm') hw.2 he rfl
    have hke := hk e he
    have hlen : L.length < 1048576 := by
      have := hp.length_eq
      simp at this
      omega
    have hc2 : ColAt S2 (P.next + 2) L := by
      rcases hc with h | h
      · exact .inl h
      · exact .inr ((o2 _ (by omega)).trans h)
    simp [t0, t5, bS2, hev, hke]
    refine round223 (B := P.next + 2) ((o2 lp (by omega)).trans hlp') hF hFn ((o2 xb (by omega)).trans hxb') hc2 (fun h => by rw [n2, h0 h]) (fun h => by rw [n2]; exact h1 h) (by omega) (by omega) hlx (by omega) (by omega) hlen ?_
    intro T g1 g2 g3 g4 g5 g6
    simp [t0, t5]
    refine ⟨(R1 ++ R2).length, by rw [hkR]; simp, L ++ [e], R1 ++ R2, ?_, ?_, g1, g2, g3, fun h => by simp at h, fun _ => g4, by omega, fun id q1 q2 q3 => ?_, by simp [t0], by simp [t5], by simp [hn2], by simp [ds_up, hds], rfl⟩
    · refine List.Perm.trans ?_ hp
      simp only [List.append_assoc]
      refine List.Perm.append_left L ?_
      show (e :: (R1 ++ R2)).Perm _
      exact List.perm_middle.symm
    · rw [g6 _ (by omega) (by omega) (by omega) (by omega), i2]
      simp
    · rw [g6 id (by omega) q2 q3 (by omega), o2 id (by omega)]
      exact hsame id q1 q2 q3
set_option maxRecDepth 20000 in
set_option maxHeartbeats 1000000 in
theorem append223 {bx mi clock : Nat} {es : List AEnt} (hb : S.h.get bx = some (.row [.map mi] 0 0 false 153)) (hm : S.h.get mi = some (.map es clock)) (hw : MapWf es clock) (hk : ∀ e, e ∈ es → e.key = .int .u64 (keyN e : Int))
    (hl : bx < S.next) (hml : mi < S.next) (hn : es.length ≤ 1048576) :
    CallE C0 223 [.nils, .func (.func 202) [] [.ptr bx 0 0 1]] S fun v T => ∃ L : List AEnt, L.Perm es ∧ v = colV (S.next + 5) L ∧ ColAt T (S.next + 5) L ∧ Sub S T ∧ (L ≠ [] → S.next + 5 < T.next) := by
  refine enterE (pu0 _) (pr0 _ rfl) fn223 rfl ok223 (by simp) fun F hn' hd hs => ?_
  have s0 := hs 0
  have s1 := hs 1
  clear hs
  simp only [List.getElem?_cons_zero, List.getElem?_cons_succ, Option.getD_some] at s0 s1
  have hn223 : Tryz.f223.ntmps = 13 := by kernel_rfl
  rw [hn223] at hn'
  simp [s0, s1]
  obtain ⟨G, hG⟩ : ∃ G : Fr, G = up (up (up F (some 2) (.ptr S.next 0 0 1)) (some 4) .nils) (some 6) (.func (.func 202) [] [.ptr bx 0 0 1]) := ⟨_, rfl⟩
  have g2 : sl G 2 = .ptr S.next 0 0 1 := by rw [hG]; simp
  have g6 : eval G (.tmp 6) = .func (.func 202) [] [.ptr bx 0 0 1] := by rw [hG]; simp
  have gn : G.n = 13 := by rw [hG]; simp [hn']
  have gd : G.ds = [] := by rw [hG]; simp [ds_up, hd]
  rw [← hG]
  clear hG s0 s1
  show RangeE C0 (.tmp 6) #[7] cA cB G _ _
  refine ⟨by kernel_rfl, 202, [], [.ptr bx 0 0 1], g6, ?_⟩
  obtain ⟨P, hP⟩ : ∃ P : AS, P = ⟨((S.h.set S.next (.row [.nils] 0 0 false 88)).set (S.next + 1) (.oth (.dfr true))).set (S.next + 2) (.oth (.loop .ready none G #[7] cA cB)), S.next + 3⟩ := ⟨_, rfl⟩
  have nP : P.next = S.next + 3 := by rw [hP]
  have pl : P.h.get (S.next + 2) = some (.oth (.loop .ready none G #[7] cA cB)) := by rw [hP]; exact get_set_same _ _ _
  have pd : P.h.get (S.next + 1) = some (.oth (.dfr true)) := by rw [hP]; exact (get_set_ne _ _ (by omega)).trans (get_set_same _ _ _)
  have px : P.h.get S.next = some (.row [.nils] 0 0 false 88) := by rw [hP]; exact ((get_set_ne _ _ (by omega)).trans (get_set_ne _ _ (by omega))).trans (get_set_same _ _ _)
  have po : ∀ id, id < S.next → P.h.get id = S.h.get id := fun id h => by rw [hP]; exact ((get_set_ne _ _ (by omega)).trans (get_set_ne _ _ (by omega))).trans (get_set_ne _ _ (by omega))
  have bP : (⟨((S.h.set S.next (.row [.nils] 0 0 false 88)).set (S.next + 1) (.oth (.dfr true))).set (S.next + 2) (.oth (.loop .ready none G #[7] cA cB)), S.next + 3⟩ : AS) = P := hP.symm
  clear hP
  show CallE C0 202 [.obj .yld (S.next + 2), .ptr bx 0 0 1] (⟨((S.h.set S.next (.row [.nils] 0 0 false 88)).set (S.next + 1) (.oth (.dfr true))).set (S.next + 2) (.oth (.loop .ready none G #[7] cA cB)), S.next + 3⟩ : AS) _
  rw [bP]
  refine CallE.mono (keys202 (F := G) (xb := S.next) ((po _ hl).trans hb) ((po _ hml).trans hm) hw hk (by omega) (by omega) (by omega) (by omega) (by omega) (by omega) (by omega) g2 gn pl px hn) ?_
  rintro v T ⟨L, hp, q1, q2, q3, q4, q5, q6⟩
  rw [nP] at q2 q3 q4 q5 q6
  refine ⟨.ready, G, #[7], cA, cB, by simp, q1, ?_⟩
  generalize hH : (⟨G.t, G.n, _⟩ : Fr) = H
  generalize hU : setO T _ _ = U
  have h2 : sl H 2 = .ptr S.next 0 0 1 := by rw [← hH]; exact g2
  have hds : H.ds = [.mark (S.next + 1)] := by rw [← hH, gd]
  have uo : ∀ id, id ≠ S.next + 2 → U.h.get id = T.h.get id := fun id h => by rw [← hU]; exact get_set_ne _ _ h
  have un : U.next = T.next := by rw [← hU]; rfl
  clear hH hU
  have ux := (uo S.next (by omega)).trans q2
  have ud : U.h.get (S.next + 1) = some (.oth (.dfr true)) := by rw [uo _ (by omega), q6 _ (by omega) (by omega) (by omega)]; exact pd
  simp [h2, ux]
  show leaveE C0 Tryz.f223 _ _ (up (up H _ _) _ _).ds U
  rw [ds_up, ds_up, hds]
  refine ⟨ud, ?_⟩
  have hres : resL C0 (up (up H (some 12) (colV (S.next + 5) L)) (some 4) (colV (S.next + 5) L)) (setO U (S.next + 1) (.dfr false)) Tryz.f223.results.toList = some [colV (S.next + 5) L] := by
    rw [show Tryz.f223.results.toList = [.tmp 4] from by kernel_rfl, resL_tmp, resL_nil]
    simp
  show endP (Option.map _ _) _ _
  rw [hres]
  have hnp : isPanB (colV (S.next + 5) L) = false := by unfold colV; split <;> rfl
  refine ⟨hnp, L, hp, rfl, ?_, ⟨fun id hid => ?_, ?_⟩, fun h => ?_⟩
  · rcases q3 with h | h
    · exact .inl h
    · refine .inr ?_
      show (U.h.set (S.next + 1) _).get _ = _
      rw [get_set_ne _ _ (by omega), uo _ (by omega)]
      exact h
  · show (U.h.set (S.next + 1) _).get _ = _
    rw [get_set_ne _ _ (by omega), uo _ (by omega), q6 _ (by omega) (by omega) (by omega)]
    exact po _ hid
  · show S.next ≤ U.next
    omega
  · show S.next + 5 < U.next
    have := q4 h
    omega
theorem colAt_num {T : AS} {B : Nat} {L : List AEnt} (h : ColAt T B L) (hn : L ≠ [] → B < T.next) : NumAt T (colV B L) (L.map keyN).toArray := by
  have hk : numL (L.map keyN).toArray.toList = keysL L := by simp [numL, keysL, Function.comp_def]
  cases L with
  | nil => exact ⟨Gw.nil, fun id cells low top frz ty hb hr => by simp [colV, bnd] at hb⟩
  | cons e L =>
    have hrow : T.h.get B = some (.row (keysL (e :: L)) 0 L.length false 38) := by
      rcases h with h | h
      · cases h
      · exact h
    have hlk : (keysL (e :: L)).length = L.length + 1 := by simp [keysL]
    refine ⟨?_, fun id cells low top frz ty hb hr => ?_⟩
    · rw [hk]
      exact Own.gw (lo := 0) (.inr ⟨B, L.length, 0, L.length + 1, by simp [colV], Nat.zero_le _, hn (by simp), hrow, Nat.zero_le _, by rw [hlk]; simp⟩)
    · have hb' : B + 1 = id + 1 := by simpa [colV, bnd] using hb
      obtain rfl : B = id := by omega
      rw [hrow] at hr
      cases hr
      rw [hlk]; simp
theorem perm_of {d d' : Array Nat} (h : Sort.PermIn 0 d.size d d') : d'.toList.Perm d.toList := by
  obtain ⟨h1, _, h3⟩ := h
  have e1 : d.extract 0 d.size = d := by simp
  have e2 : d'.extract 0 d.size = d' := by rw [← h1]; simp
  rw [e1, e2] at h3
  exact h3
theorem sorted_of {d : Array Nat} (h : Sort.SortedIn ltN 0 d.size d) : d.toList.Pairwise (· ≤ ·) := by
  rw [List.pairwise_iff_getElem]
  intro i j hi hj hij
  simp only [Array.length_toList] at hi hj
  have := h i j (Nat.zero_le _) hij hj
  rw [getElem!_pos d i hi, getElem!_pos d j hj] at this
  simp only [ltN, decide_eq_false_iff_not] at this
  simp only [Array.getElem_toList]
  omega
theorem collect154 {bx mi clock : Nat} {es : List AEnt} (hb : S.h.get bx = some (.row [.map mi] 0 0 false 153)) (hm : S.h.get mi = some (.map es clock)) (hw : MapWf es clock) (hk : ∀ e, e ∈ es → e.key = .int .u64 (keyN e : Int))
    (hl : bx < S.next) (hml : mi < S.next) (hn : es.length ≤ 1048576) :
    CallE C0 154 [.func (.func 202) [] [.ptr bx 0 0 1]] S fun v T => ∃ L : List AEnt, L.Perm es ∧ v = colV (S.next + 5) L ∧ ColAt T (S.next + 5) L ∧ Sub S T ∧ (L ≠ [] → S.next + 5 < T.next) := by
  refine enterE (pu0 _) (pr0 _ rfl) fn154 rfl ok154 (by simp) fun F hn' hd hs => ?_
  have s0 := hs 0
  clear hs
  simp only [List.getElem?_cons_zero, Option.getD_some] at s0
  simp [s0, ex0]
  refine CallE.mono (append223 hb hm hw hk hl hml hn) ?_
  rintro v T ⟨L, h1, rfl, h2⟩
  simp
  show leaveE C0 Tryz.f154 _ _ (Fr.ds _) T
  simp only [ds_up, hd]
  have hres : ∀ F : Fr, sl F 2 = colV (S.next + 5) L → resL C0 F T Tryz.f154.results.toList = some [colV (S.next + 5) L] := by
    intro F h
    rw [show Tryz.f154.results.toList = [.tmp 2] from by kernel_rfl, resL_tmp, resL_nil, h]
    rfl
  show endP (Option.map _ _) _ _
  rw [hres _ (by simp)]
  have hnp : isPanB (colV (S.next + 5) L) = false := by unfold colV; split <;> rfl
  exact ⟨hnp, L, h1, rfl, h2⟩
theorem fn93 : C0.fns.get 93 = some Tryz.f93 := by kernel_rfl
theorem ok93 : codeOk C0 Tryz.f93.ntmps (Tryz.f93.body.getD .skip) = true := by kernel_rfl
theorem sorted93 {bx mi clock : Nat} {es : List AEnt} (hb : S.h.get bx = some (.row [.map mi] 0 0 false 153)) (hm : S.h.get mi = some (.map es clock)) (hw : MapWf es clock) (hk : ∀ e, e ∈ es → e.key = .int .u64 (keyN e : Int))
    (hl : bx < S.next) (hml : mi < S.next) (hn : es.length ≤ 1048576) :
    CallE C0 93 [.func (.func 202) [] [.ptr bx 0 0 1]] S fun v T => ∃ d : Array Nat, d.toList.Perm (es.map keyN) ∧ d.toList.Pairwise (· ≤ ·) ∧ Sub S T ∧
      ((d.size = 0 ∧ v = .nils) ∨ (0 < d.size ∧ v = .slice (S.next + 5) (d.size - 1) 0 d.size d.size 1 none ∧ (∃ low, low ≤ d.size - 1 ∧ T.h.get (S.next + 5) = some (.row (numL d.toList) low (d.size - 1) false 38)) ∧ S.next + 5 < T.next)) := by
  refine enterE (pu0 _) (pr0 _ rfl) fn93 rfl ok93 (by simp) fun F hn' hd hs => ?_
  have s0 := hs 0
  clear hs
  simp only [List.getElem?_cons_zero, Option.getD_some] at s0
  simp [s0, ex0]
  refine CallE.mono (collect154 hb hm hw hk hl hml hn) ?_
  rintro v T ⟨L, h1, rfl, h2, h3, h4⟩
  have hLn : L.length ≤ 1048576 := by rw [h1.length_eq]; exact hn
  have hnum := colAt_num h2 h4
  simp [ex0]
  refine CallE.mono (sort_sort hnum (by simpa using hLn)).each ?_
  rintro r T2 ⟨rfl, d', p1, p2, p3, p4⟩
  have hsz : d'.size = L.length := by have := p1.1; simpa using this
  simp
  show leaveE C0 Tryz.f93 _ _ (Fr.ds _) T2
  simp only [ds_up, hd]
  have hres : ∀ F : Fr, sl F 2 = colV (S.next + 5) L → resL C0 F T2 Tryz.f93.results.toList = some [colV (S.next + 5) L] := by
    intro F h
    rw [show Tryz.f93.results.toList = [.tmp 2] from by kernel_rfl, resL_tmp, resL_nil, h]
    rfl
  show endP (Option.map _ _) _ _
  rw [hres _ (by simp)]
  have hnp : isPanB (colV (S.next + 5) L) = false := by unfold colV; split <;> rfl
  have hperm := perm_of p1
  have hS2 : Sub S T2 := ⟨fun id hid => by
    rw [p4.h id (by have := h3.next; omega) (by unfold colV; split <;> simp [bnd]; omega)]
    exact h3.h id hid, Nat.le_trans h3.next p4.next⟩
  refine ⟨hnp, d', hperm.trans (by simpa using h1.map keyN), sorted_of (by rw [hsz]; simpa using p2), hS2, ?_⟩
  cases L with
  | nil => exact .inl ⟨Array.eq_empty_of_size_eq_zero hsz, rfl⟩
  | cons e L =>
    refine .inr ⟨by rw [hsz]; simp, by rw [hsz]; rfl, ?_, ?_⟩
    · obtain ⟨g1, g2⟩ := p3.gw
      rcases g2 with h | ⟨id, g, off, n, lim, cap, q1, q2, q3, cells, low, top, q4, q5, q6⟩
      · simp [colV] at h
      · have q1' : AV.slice (S.next + 5) L.length 0 (L.length + 1) (L.length + 1) 1 none = .slice id g off n lim 1 cap := q1
        cases q1'
        have hcl := p3.whole (S.next + 5) cells low top false 38 (by simp [colV, bnd]) q4
        have hr := g1.rd
        have hcells : cells = numL d'.toList := by
          simp only [colV, List.length_cons, rdS, rd_at, q4, rdO_row] at hr
          rw [if_pos (by omega)] at hr
          simp only [Option.some.injEq, List.drop_zero, Nat.mul_one] at hr
          rw [← hr, List.take_of_length_le (by rw [hcl, hsz]; simp)]
        refine ⟨low, ?_, ?_⟩
        · rw [hsz]; simp; omega
        · rw [q4, hcells, hsz, ← q6]; simp
    · have := h4 (by simp)
      have := p4.next
      omega
end
end Go.Proofs.YtgeghppdhjlbiaaGreatDoor.modb

namespace Go.Proofs.YtgeghppdhjlbiaaGreatDoor.mod
open Go Go.Am
set_option linter.unusedVariables false
set_option linter.unusedSimpArgs false

/-- A map's numbers, rising. -/
def risen (es : List AEnt) : List Nat := (es.map keyN).mergeSort fun a b => decide (a ≤ b)
theorem risen_perm (es : List AEnt) : (risen es).Perm (es.map keyN) := List.mergeSort_perm _ _
theorem risen_pair (es : List AEnt) : (risen es).Pairwise (· ≤ ·) := by
  have := List.pairwise_mergeSort (le := fun a b : Nat => decide (a ≤ b)) (fun a b c h1 h2 => by simp only [decide_eq_true_eq] at *; omega) (fun a b => by simp only [Bool.or_eq_true, decide_eq_true_eq]; omega) (es.map keyN)
  exact this.imp fun h => by simpa using h
theorem risen_eq {es : List AEnt} {l : List Nat} (h1 : l.Perm (es.map keyN)) (h2 : l.Pairwise (· ≤ ·)) : l = risen es :=
  List.Perm.eq_of_pairwise (le := (· ≤ ·)) (fun a b _ _ h1 h2 => Nat.le_antisymm h1 h2) h2 (risen_pair es) (h1.trans (risen_perm es).symm)
/-- The answer. -/
noncomputable def out93 (S : AS) (l : List Nat) : AV × AS := match l with
  | [] => (.nils, S)
  | x :: l => (.slice (S.next + 5) l.length 0 (l.length + 1) (l.length + 1) 1 none, ⟨S.h.set (S.next + 5) (.row (numL (x :: l)) l.length l.length false 38), S.next + 6⟩)
def Q93 (vs : List AV) (S : AS) (es : List AEnt) : Prop :=
  ∃ bx mi clock, vs = [.func (.func 155) [] [.ptr bx 0 0 1]] ∧ S.h.get bx = some (.row [.map mi] 0 0 false 75) ∧ S.h.get mi = some (.map es clock) ∧ MapWf es clock ∧ (∀ e, e ∈ es → e.key = .int .u64 (keyN e : Int)) ∧ bx < S.next ∧ mi < S.next ∧ es.length ≤ 1048576
theorem Q93.uniq {vs : List AV} {S : AS} {es es' : List AEnt} (h : Q93 vs S es) (h' : Q93 vs S es') : es = es' := by
  obtain ⟨bx, mi, clock, rfl, h1, h2, _⟩ := h
  obtain ⟨bx', mi', clock', e, h1', h2', _⟩ := h'
  cases e
  rw [h1] at h1'
  cases h1'
  rw [h2] at h2'
  cases h2'
  rfl
open Classical in
noncomputable def q93 (vs : List AV) (S : AS) : Option (AV × AS) := if h : ∃ es, Q93 vs S es then some (out93 S (risen h.choose)) else none
theorem q93_of {vs : List AV} {S : AS} {es : List AEnt} (h : Q93 vs S es) : q93 vs S = some (out93 S (risen es)) := by
  have hx : ∃ es, Q93 vs S es := ⟨es, h⟩
  unfold q93
  rw [dif_pos hx, hx.choose_spec.uniq h]
theorem flat_num : ∀ l : List Nat, flatL (flatF 2) (numL l) = true
  | [] => rfl
  | x :: l => by
    show (flatF 2 (.int .u64 (x : Int)) && flatL (flatF 2) (numL l)) = true
    rw [flat_num l]; rfl
theorem prim93 {Λ : LB} (hr : Ready Tryz.prog A0) (hp : ∀ x, x ∈ A0.prims → PrimOk Λ Tryz.prog x.1 x.2) (hg : ∀ x, x ∈ A0.globs → GlobOk Λ.w Λ.B x.1 x.2) : PrimOk Λ Tryz.prog 93 q93 := by
  refine prim_kept (A := A0) hr hp hg fun vs S v S' hq => ?_
  have hq2 := hq
  unfold q93 at hq2
  split at hq2
  case isFalse => cases hq2
  case isTrue h =>
    clear hq2
    obtain ⟨es, hQ⟩ := h
    rw [q93_of hQ] at hq
    obtain ⟨bx, mi, clock, rfl, h1, h2, h3, h4, h5, h6, h7⟩ := hQ
    have hc := sorted93 (S := cutS S [bx, mi]) (by rw [cutS_get, if_pos (by simp)]; exact h1) (by rw [cutS_get, if_pos (by simp)]; exact h2) h3 h4 h5 h6 h7
    have hnx : (cutS S [bx, mi]).next = S.next := rfl
    have hids : ∀ T, Sub (cutS S [bx, mi]) T → ∀ i, i ∈ [bx, mi] → T.h.get i = S.h.get i := by
      intro T hT i hi
      have hlt : i < S.next := by
        simp only [List.mem_cons, List.not_mem_nil, or_false] at hi
        rcases hi with rfl | rfl <;> assumption
      rw [hT.h i hlt, cutS_get, if_pos hi]
    cases hl : risen es with
    | nil =>
      rw [hl] at hq
      cases hq
      refine ⟨[bx, mi], (.nils, none), S.next, rfl, rfl, Nat.le_refl _, (fun i o h => (by cases h)), hc.mono ?_⟩
      rintro v T ⟨d, d1, d2, d3, d4⟩
      have hd := risen_eq d1 d2
      rcases d4 with ⟨_, rfl⟩ | ⟨hpos, _⟩
      · exact ⟨rfl, hids T d3, d3.next⟩
      · exfalso
        rw [hl] at hd
        have : d.size = 0 := by rw [← Array.length_toList, hd]; rfl
        omega
    | cons x l =>
      rw [hl] at hq
      cases hq
      refine ⟨[bx, mi], (.slice (S.next + 5) l.length 0 (l.length + 1) (l.length + 1) 1 none, some (S.next + 5, .row (numL (x :: l)) l.length l.length false 38)), S.next + 6, rfl, rfl, by omega, fun i o h => ?_, hc.mono ?_⟩
      · cases h
        exact ⟨by omega, by omega, _, _, _, rfl, flat_num _⟩
      rintro v T ⟨d, d1, d2, d3, d4⟩
      have hd := risen_eq d1 d2
      rw [hl] at hd
      have hsz : d.size = l.length + 1 := by rw [← Array.length_toList, hd]; rfl
      rcases d4 with ⟨h0, _⟩ | ⟨_, rfl, ⟨low, w1, w2⟩, w3⟩
      · omega
      · rw [hnx, hsz] at w2 ⊢
        rw [hnx] at w3
        rw [hsz] at w1
        rw [hd] at w2
        simp only [Nat.add_sub_cancel] at w1 w2 ⊢
        refine ⟨?_, hids T d3, by omega⟩
        unfold keepV
        simp only [nble, w2]
        rw [decide_eq_true (show S.next ≤ S.next + 5 by omega)]
        simp only [cond_true, flat_num, nbeq, decide_true, w1, Bool.and_self]
end Go.Proofs.YtgeghppdhjlbiaaGreatDoor.mod

namespace Go.Proofs.YtgeghppdhjlbiaaGreatDoor.modb
open Go Go.Am Go.Proofs.YtgeghppdhjlbiaaGreatDoor.mod
set_option linter.unusedVariables false
set_option linter.unusedSimpArgs false

/-- A map's numbers, rising. -/
def risen (es : List AEnt) : List Nat := (es.map keyN).mergeSort fun a b => decide (a ≤ b)
theorem risen_perm (es : List AEnt) : (risen es).Perm (es.map keyN) := List.mergeSort_perm _ _
theorem risen_pair (es : List AEnt) : (risen es).Pairwise (· ≤ ·) := by
  have := List.pairwise_mergeSort (le := fun a b : Nat => decide (a ≤ b)) (fun a b c h1 h2 => by simp only [decide_eq_true_eq] at *; omega) (fun a b => by simp only [Bool.or_eq_true, decide_eq_true_eq]; omega) (es.map keyN)
  exact this.imp fun h => by simpa using h
theorem risen_eq {es : List AEnt} {l : List Nat} (h1 : l.Perm (es.map keyN)) (h2 : l.Pairwise (· ≤ ·)) : l = risen es :=
  List.Perm.eq_of_pairwise (le := (· ≤ ·)) (fun a b _ _ h1 h2 => Nat.le_antisymm h1 h2) h2 (risen_pair es) (h1.trans (risen_perm es).symm)
/-- The answer. -/
noncomputable def out93 (S : AS) (l : List Nat) : AV × AS := match l with
  | [] => (.nils, S)
  | x :: l => (.slice (S.next + 5) l.length 0 (l.length + 1) (l.length + 1) 1 none, ⟨S.h.set (S.next + 5) (.row (numL (x :: l)) l.length l.length false 38), S.next + 6⟩)
def Q93 (vs : List AV) (S : AS) (es : List AEnt) : Prop :=
  ∃ bx mi clock, vs = [.func (.func 202) [] [.ptr bx 0 0 1]] ∧ S.h.get bx = some (.row [.map mi] 0 0 false 153) ∧ S.h.get mi = some (.map es clock) ∧ MapWf es clock ∧ (∀ e, e ∈ es → e.key = .int .u64 (keyN e : Int)) ∧ bx < S.next ∧ mi < S.next ∧ es.length ≤ 1048576
theorem Q93.uniq {vs : List AV} {S : AS} {es es' : List AEnt} (h : Q93 vs S es) (h' : Q93 vs S es') : es = es' := by
  obtain ⟨bx, mi, clock, rfl, h1, h2, _⟩ := h
  obtain ⟨bx', mi', clock', e, h1', h2', _⟩ := h'
  cases e
  rw [h1] at h1'
  cases h1'
  rw [h2] at h2'
  cases h2'
  rfl
open Classical in
noncomputable def q93 (vs : List AV) (S : AS) : Option (AV × AS) := if h : ∃ es, Q93 vs S es then some (out93 S (risen h.choose)) else none
theorem q93_of {vs : List AV} {S : AS} {es : List AEnt} (h : Q93 vs S es) : q93 vs S = some (out93 S (risen es)) := by
  have hx : ∃ es, Q93 vs S es := ⟨es, h⟩
  unfold q93
  rw [dif_pos hx, hx.choose_spec.uniq h]
theorem flat_num : ∀ l : List Nat, flatL (flatF 2) (numL l) = true
  | [] => rfl
  | x :: l => by
    show (flatF 2 (.int .u64 (x : Int)) && flatL (flatF 2) (numL l)) = true
    rw [flat_num l]; rfl
theorem prim93 {Λ : LB} (hr : Ready Tryz.prog A0) (hp : ∀ x, x ∈ A0.prims → PrimOk Λ Tryz.prog x.1 x.2) (hg : ∀ x, x ∈ A0.globs → GlobOk Λ.w Λ.B x.1 x.2) : PrimOk Λ Tryz.prog 93 q93 := by
  refine prim_kept (A := A0) hr hp hg fun vs S v S' hq => ?_
  have hq2 := hq
  unfold q93 at hq2
  split at hq2
  case isFalse => cases hq2
  case isTrue h =>
    clear hq2
    obtain ⟨es, hQ⟩ := h
    rw [q93_of hQ] at hq
    obtain ⟨bx, mi, clock, rfl, h1, h2, h3, h4, h5, h6, h7⟩ := hQ
    have hc := sorted93 (S := cutS S [bx, mi]) (by rw [cutS_get, if_pos (by simp)]; exact h1) (by rw [cutS_get, if_pos (by simp)]; exact h2) h3 h4 h5 h6 h7
    have hnx : (cutS S [bx, mi]).next = S.next := rfl
    have hids : ∀ T, Sub (cutS S [bx, mi]) T → ∀ i, i ∈ [bx, mi] → T.h.get i = S.h.get i := by
      intro T hT i hi
      have hlt : i < S.next := by
        simp only [List.mem_cons, List.not_mem_nil, or_false] at hi
        rcases hi with rfl | rfl <;> assumption
      rw [hT.h i hlt, cutS_get, if_pos hi]
    cases hl : risen es with
    | nil =>
      rw [hl] at hq
      cases hq
      refine ⟨[bx, mi], (.nils, none), S.next, rfl, rfl, Nat.le_refl _, (fun i o h => (by cases h)), hc.mono ?_⟩
      rintro v T ⟨d, d1, d2, d3, d4⟩
      have hd := risen_eq d1 d2
      rcases d4 with ⟨_, rfl⟩ | ⟨hpos, _⟩
      · exact ⟨rfl, hids T d3, d3.next⟩
      · exfalso
        rw [hl] at hd
        have : d.size = 0 := by rw [← Array.length_toList, hd]; rfl
        omega
    | cons x l =>
      rw [hl] at hq
      cases hq
      refine ⟨[bx, mi], (.slice (S.next + 5) l.length 0 (l.length + 1) (l.length + 1) 1 none, some (S.next + 5, .row (numL (x :: l)) l.length l.length false 38)), S.next + 6, rfl, rfl, by omega, fun i o h => ?_, hc.mono ?_⟩
      · cases h
        exact ⟨by omega, by omega, _, _, _, rfl, flat_num _⟩
      rintro v T ⟨d, d1, d2, d3, d4⟩
      have hd := risen_eq d1 d2
      rw [hl] at hd
      have hsz : d.size = l.length + 1 := by rw [← Array.length_toList, hd]; rfl
      rcases d4 with ⟨h0, _⟩ | ⟨_, rfl, ⟨low, w1, w2⟩, w3⟩
      · omega
      · rw [hnx, hsz] at w2 ⊢
        rw [hnx] at w3
        rw [hsz] at w1
        rw [hd] at w2
        simp only [Nat.add_sub_cancel] at w1 w2 ⊢
        refine ⟨?_, hids T d3, by omega⟩
        unfold keepV
        simp only [nble, w2]
        rw [decide_eq_true (show S.next ≤ S.next + 5 by omega)]
        simp only [cond_true, flat_num, nbeq, decide_true, w1, Bool.and_self]
end Go.Proofs.YtgeghppdhjlbiaaGreatDoor.modb

namespace Go.Proofs.YtgeghppdhjlbiaaGreatDoor.rising
open Go Go.Am
set_option linter.unusedVariables false
set_option linter.unusedSimpArgs false

noncomputable def insL (x : Nat) (l : List Nat) : List Nat := List.rec (motive := fun _ => List Nat) [x] (fun y t ih => cond (Nat.ble x y) (x :: y :: t) (y :: ih)) l
noncomputable def srtL (l : List Nat) : List Nat := List.rec (motive := fun _ => List Nat) [] (fun x _ ih => insL x ih) l
noncomputable def forceNL {α : Type} (l : List Nat) : (List Nat → α) → α := List.rec (motive := fun _ => (List Nat → α) → α) (fun k => k []) (fun x _ ih k => forceN x fun x => ih fun t => k (x :: t)) l
theorem forceNL_eq {α : Type} (l : List Nat) (k : List Nat → α) : forceNL l k = k l := by
  induction l generalizing k with
  | nil => rfl
  | cons x l ih =>
    show forceN x (fun x => forceNL l fun t => k (x :: t)) = _
    rw [forceN_eq, ih]
theorem insL_cons (x y : Nat) (t : List Nat) : insL x (y :: t) = cond (Nat.ble x y) (x :: y :: t) (y :: insL x t) := rfl
theorem insL_perm (x : Nat) : ∀ l : List Nat, (insL x l).Perm (x :: l)
  | [] => List.Perm.refl _
  | y :: t => by
    rw [insL_cons]
    cases Nat.ble x y with
    | true => exact List.Perm.refl _
    | false => exact ((insL_perm x t).cons y).trans (List.Perm.swap x y t)
theorem srtL_perm : ∀ l : List Nat, (srtL l).Perm l
  | [] => List.Perm.refl _
  | x :: l => (insL_perm x _).trans ((srtL_perm l).cons x)
theorem insL_pair (x : Nat) : ∀ l : List Nat, l.Pairwise (· ≤ ·) → (insL x l).Pairwise (· ≤ ·)
  | [], _ => by show List.Pairwise (· ≤ ·) [x]; simp
  | y :: t, h => by
    obtain ⟨h1, h2⟩ := List.pairwise_cons.1 h
    rw [insL_cons]
    cases hb : Nat.ble x y with
    | true =>
      have hxy := Nat.le_of_ble_eq_true hb
      refine List.pairwise_cons.2 ⟨fun z hz => ?_, h⟩
      rcases List.mem_cons.1 hz with rfl | hz
      · exact hxy
      · exact Nat.le_trans hxy (h1 z hz)
    | false =>
      have hxy : y ≤ x := by
        rcases Nat.le_total x y with h | h
        · rw [Nat.ble_eq_true_of_le h] at hb; cases hb
        · exact h
      refine List.pairwise_cons.2 ⟨fun z hz => ?_, insL_pair x t h2⟩
      rcases List.mem_cons.1 ((insL_perm x t).mem_iff.1 hz) with rfl | hz
      · exact hxy
      · exact h1 z hz
theorem srtL_pair : ∀ l : List Nat, (srtL l).Pairwise (· ≤ ·)
  | [] => List.Pairwise.nil
  | x :: l => insL_pair x _ (srtL_pair l)

/-- The entries are a map's, their keys numbers. -/
noncomputable def entOk (clock : Nat) (e : AEnt) : Bool := Nat.blt e.born clock && (match e.key with | .int .u64 (.ofNat _) => true | _ => false)
noncomputable def entsOk (clock : Nat) (es : List AEnt) : Bool := List.rec (motive := fun _ => Bool) true (fun e t ih => cond (entOk clock e) (cond (allL (fun f => !Nat.beq e.born f.born) t) ih false) false) es
theorem entOk_key {clock : Nat} {e : AEnt} (h : entOk clock e = true) : e.born < clock ∧ e.key = .int .u64 (mod.keyN e : Int) := by
  unfold entOk at h
  rw [Bool.and_eq_true, nblt, decide_eq_true_eq] at h
  refine ⟨h.1, ?_⟩
  have h2 := h.2
  unfold mod.keyN
  split at h2
  · rename_i hk; rw [hk]; rfl
  · cases h2
theorem entsOk_all {clock : Nat} : ∀ {es : List AEnt}, entsOk clock es = true → MapWf es clock ∧ ∀ e, e ∈ es → e.key = .int .u64 (mod.keyN e : Int)
  | [], _ => ⟨⟨fun e h => absurd h (List.not_mem_nil), List.Pairwise.nil⟩, fun e h => absurd h (List.not_mem_nil)⟩
  | e :: es, h => by
    have hu : entsOk clock (e :: es) = cond (entOk clock e) (cond (allL (fun f => !Nat.beq e.born f.born) es) (entsOk clock es) false) false := rfl
    rw [hu] at h
    cases h1 : entOk clock e with
    | false => rw [h1] at h; cases h
    | true =>
      rw [h1] at h
      cases h2 : allL (fun f => !Nat.beq e.born f.born) es with
      | false => rw [h2] at h; cases h
      | true =>
        rw [h2] at h
        obtain ⟨⟨k1, k2⟩, k3⟩ := entsOk_all (es := es) h
        obtain ⟨g1, g2⟩ := entOk_key h1
        rw [allL_all] at h2
        refine ⟨⟨fun f hf => ?_, List.pairwise_cons.2 ⟨fun f hf => ?_, k2⟩⟩, fun f hf => ?_⟩
        · rcases List.mem_cons.1 hf with rfl | hf
          · exact g1
          · exact k1 f hf
        · have := h2 f hf
          rw [nbeq] at this
          simpa using this
        · rcases List.mem_cons.1 hf with rfl | hf
          · exact g2
          · exact k3 f hf
noncomputable def outF (S : AS) (l : List Nat) : Option (AV × AS) :=
  List.casesOn (motive := fun _ => Option (AV × AS)) l (some (.nils, S)) fun x t => forceN (lenL t) fun n => forceN (Nat.succ n) fun n1 => forceN (Nat.add S.next 5) fun b => forceN (Nat.add S.next 6) fun nx =>
    some (.slice b n 0 n1 n1 1 none, ⟨S.h.set b (.row (mapL (fun n => AV.int .u64 (.ofNat n)) (x :: t)) n n false 38), nx⟩)
theorem outF_eq (S : AS) (l : List Nat) : outF S l = some (mod.out93 S l) := by
  cases l with
  | nil => rfl
  | cons x t =>
    unfold outF
    simp only [forceN_eq, lenL_eq, mapL_eq]
    rfl
noncomputable def pick (S : AS) (bx ty : Nat) : Option (AV × AS) :=
  match S.h.get bx with
  | some (.row [.map mi] low top frz t) => cond (Nat.beq low 0 && Nat.beq top 0 && !frz && Nat.beq t ty && Nat.blt mi S.next)
      (match S.h.get mi with
        | some (.map es clock) => cond (entsOk clock es && Nat.ble (lenL es) 1048576) (forceNL (srtL (mapL mod.keyN es)) fun l => outF S l) none
        | _ => none) none
  | _ => none
noncomputable def q93 (vs : List AV) (S : AS) : Option (AV × AS) :=
  match vs with
  | [.func (.func f) [] [.ptr bx g o l]] => cond (Nat.beq g 0 && Nat.beq o 0 && Nat.beq l 1 && Nat.blt bx S.next) (cond (Nat.beq f 155) (pick S bx 75) (cond (Nat.beq f 202) (pick S bx 153) none)) none
  | _ => none
theorem pick_some {S : AS} {bx ty : Nat} {r : AV × AS} (h : pick S bx ty = some r) : ∃ mi es clock, S.h.get bx = some (.row [.map mi] 0 0 false ty) ∧ S.h.get mi = some (.map es clock) ∧ MapWf es clock ∧ (∀ e, e ∈ es → e.key = .int .u64 (mod.keyN e : Int)) ∧ mi < S.next ∧ es.length ≤ 1048576 ∧ r = mod.out93 S (mod.risen es) := by
  unfold pick at h
  split at h
  · rename_i mi low top frz t h1
    cases hb : (Nat.beq low 0 && Nat.beq top 0 && !frz && Nat.beq t ty && Nat.blt mi S.next) with
    | false => rw [hb] at h; cases h
    | true =>
      rw [hb, cond_true] at h
      simp only [Bool.and_eq_true, nbeq, nblt, decide_eq_true_eq, Bool.not_eq_true'] at hb
      obtain ⟨⟨⟨⟨rfl, rfl⟩, rfl⟩, rfl⟩, hm⟩ := hb
      split at h
      · rename_i es clock h2
        cases hc : (entsOk clock es && Nat.ble (lenL es) 1048576) with
        | false => rw [hc] at h; cases h
        | true =>
          rw [hc, cond_true, forceNL_eq, outF_eq, mapL_eq] at h
          simp only [Bool.and_eq_true, nble, decide_eq_true_eq, lenL_eq] at hc
          obtain ⟨k1, k2⟩ := entsOk_all hc.1
          refine ⟨mi, es, clock, h1, h2, k1, k2, hm, hc.2, ?_⟩
          rw [← mod.risen_eq (srtL_perm _) (srtL_pair _)]
          exact (Option.some.inj h).symm
      · cases h
  · cases h
theorem q93_le {vs : List AV} {S : AS} {r : AV × AS} (h : q93 vs S = some r) : mod.q93 vs S = some r ∨ modb.q93 vs S = some r := by
  unfold q93 at h
  split at h
  · rename_i f bx g o l
    cases hb : (Nat.beq g 0 && Nat.beq o 0 && Nat.beq l 1 && Nat.blt bx S.next) with
    | false => rw [hb] at h; cases h
    | true =>
      rw [hb, cond_true] at h
      simp only [Bool.and_eq_true, nbeq, nblt, decide_eq_true_eq] at hb
      obtain ⟨⟨⟨rfl, rfl⟩, rfl⟩, hx⟩ := hb
      cases h1 : Nat.beq f 155 with
      | true =>
        rw [h1, cond_true] at h
        obtain rfl : f = 155 := by simpa [nbeq] using h1
        obtain ⟨mi, es, clock, e1, e2, e3, e4, e5, e6, rfl⟩ := pick_some h
        exact .inl (mod.q93_of ⟨bx, mi, clock, rfl, e1, e2, e3, e4, hx, e5, e6⟩)
      | false =>
        rw [h1, cond_false] at h
        cases h2 : Nat.beq f 202 with
        | true =>
          rw [h2, cond_true] at h
          obtain rfl : f = 202 := by simpa [nbeq] using h2
          obtain ⟨mi, es, clock, e1, e2, e3, e4, e5, e6, rfl⟩ := pick_some h
          exact .inr (modb.q93_of ⟨bx, mi, clock, rfl, e1, e2, e3, e4, hx, e5, e6⟩)
        | false => rw [h2] at h; cases h
  · cases h
theorem prim93 (Λ : LB) : PrimOk Λ Tryz.prog 93 q93 := by
  have ra : Ready Tryz.prog mod.A0 := laid.ready mod.A0 rfl rfl
  intro ρ vs S w args v S' hR hl hq
  rcases q93_le hq with h | h
  · exact mod.prim93 ra (fun x hx => by cases hx) (fun x hx => by cases hx) ρ vs S w args v S' hR hl h
  · exact modb.prim93 ra (fun x hx => by cases hx) (fun x hx => by cases hx) ρ vs S w args v S' hR hl h
end Go.Proofs.YtgeghppdhjlbiaaGreatDoor.rising
