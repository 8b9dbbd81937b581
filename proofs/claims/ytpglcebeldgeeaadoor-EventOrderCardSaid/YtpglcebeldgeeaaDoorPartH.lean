/-
  The law of order, run.
-/
import Derived.Test.YtpglcebeldgeeaaDoorPartE
namespace Go.Proofs.YtpglcebeldgeeaaDoor.val
open Go Go.Am Go.Proofs.YtpglcebeldgeeaaDoor.laid
set_option linter.unusedVariables false
set_option linter.unusedSimpArgs false

theorem h_fn4 : C0.fns.get 4 = some Tryd.f4 := by kernel_rfl
theorem h_ok4 : codeOk C0 Tryd.f4.ntmps (Tryd.f4.body.getD .skip) = true := by kernel_rfl
theorem h_nt4 : Tryd.f4.ntmps = 196 := by kernel_rfl
theorem h_und4 : und C0 4 = some .bool := by kernel_rfl
theorem h_nil {S : AS} : AttsAt S .nils [] := ⟨Sl.nil, by simp, fun a h => by cases h⟩
/-- Attributes more, behind a writable row, however many. -/
theorem app_big {S : AS} {v x : AV} {L M : List Att} (hg : Gw S v 5 38 (L.flatMap encA)) (hx : Sl S x 5 (M.flatMap encA)) (hl : L.length + M.length ≤ 2513169434843) :
    ∃ v' T, builtinV C0 S .append [22, 22] [v, x] = .val v' T ∧ Gw T v' 5 38 ((L ++ M).flatMap encA) ∧ (∀ id, id < S.next → bnd v ≠ id + 1 → T.h.get id = S.h.get id) ∧ S.next ≤ T.next ∧ (bnd v' = bnd v ∨ S.next < bnd v') := by
  have h1 := hg.1.len_flat encA_len (by omega)
  have h2 := hx.len_flat encA_len (by omega)
  obtain ⟨v', T, e1, r1, r2, r3, r4, r5, r6, r7⟩ := append_gw (cx := C0) (ts := []) (t := 22) (u := 22) (p := (38, 5, 56)) e_st22 e_un22 rfl hg hx (by rw [h1, h2]; simp [fits, nble]; omega)
  simp only at r1
  rw [← List.flatMap_append] at r1
  exact ⟨v', T, e1, r1, fun id a b => r2 id a (fun e => b e.symm), r3, r6⟩
/-- Make tells the same of the same attributes in whatever order. -/
theorem make_ones (key : List Nat) (l : List Att) : ∃ (k : List Nat) (m : List Att) (ok : Bool), (∀ l' S r T, l'.Perm l → MakeR S key l' r T → ∃ v, r = .tuple [.agg [.str k, v], .int .i64 (if ok then 0 else 30)] ∧ AttsAt T v m) ∧
    (if ok then k = key ∧ m.Perm l ∧ evMay key m = true ∧ makeE key m = some (key, m) else k = [] ∧ m = []) := by
  cases h : makeE key l with
  | none =>
    refine ⟨[], [], false, fun l' S r T hp hr => ?_, ⟨rfl, rfl⟩⟩
    unfold MakeR at hr
    rw [make_perm hp, h] at hr
    exact ⟨.nils, hr, h_nil⟩
  | some q =>
    obtain ⟨k, m⟩ := q
    obtain ⟨q1, q2, q3, q4⟩ := make_some h
    refine ⟨k, m, true, fun l' S r T hp hr => ?_, q1, q2, q3, q4⟩
    unfold MakeR at hr
    rw [make_perm hp, h] at hr
    obtain ⟨v, e, _, _, a⟩ := hr
    exact ⟨v, e, a⟩
theorem neV (c : Bool) (a b : ValV) : binV C0 .neq 36 c (.agg (encV a)) (.agg (encV b)) = some (.bool (!decide (a = b))) := by
  obtain ⟨ak, ai, ax, ab⟩ := a
  obtain ⟨bk, bi, bx, bb⟩ := b
  have e : eqV C0 36 c (.agg [.int .i64 ak, .int .i64 ai, .str ax, .bool ab]) (.agg [.int .i64 bk, .int .i64 bi, .str bx, .bool bb]) =
      andS (some (eqI ak bk)) (andS (some (eqI ai bi)) (andS (some (eqS ax bx)) (andS (some (ab == bb)) (some true)))) := by kernel_rfl
  have h : eqV C0 36 c (.agg (encV ⟨ak, ai, ax, ab⟩)) (.agg (encV ⟨bk, bi, bx, bb⟩)) = some (decide ((⟨ak, ai, ax, ab⟩ : ValV) = ⟨bk, bi, bx, bb⟩)) := by
    simp only [encV]
    rw [e, eqI_eq, eqI_eq]
    simp only [eqS_eq, ValV.mk.injEq]
    unfold andS
    by_cases h2 : ak = bk <;> by_cases h3 : ai = bi <;> by_cases h4 : ax = bx <;> cases ab <;> cases bb <;> simp [h2, h3, h4]
  simp only [encV] at h ⊢
  unfold binV
  simp [h, oddA]
theorem any_step {f : Att → Bool} {l : List Att} {i : Nat} (h : i < l.length) : (l.take (i + 1)).any f = ((l.take i).any f || f l[i]) := by
  rw [List.take_add_one, List.getElem?_eq_getElem h]
  simp [-List.take_append_getElem]
theorem any_perm {f : Att → Bool} {l m : List Att} (h : l.Perm m) : l.any f = m.any f := by
  rw [Bool.eq_iff_iff, List.any_eq_true, List.any_eq_true]
  simp only [h.mem_iff]
def or1H (P1 : AS) (key name : List Nat) (u : AV) (at_ b9 : Nat) (er : Int) (l : List Att) (k : Nat) (F' : Fr) (S' : AS) : Prop :=
  ∃ (j : Nat) (w : AV), Sub P1 S' ∧ Gw S' w 5 38 ((l.drop j).reverse.flatMap encA) ∧ (bnd w = 0 ∨ P1.next < bnd w) ∧ sl F' 0 = .str key ∧ sl F' 1 = u ∧ sl F' 2 = .str name ∧ sl F' 3 = .int .u8 at_ ∧ sl F' 9 = .ptr b9 0 0 2 ∧ sl F' 10 = .int .i64 er ∧ sl F' 11 = w ∧ sl F' 12 = .nils ∧ sl F' 13 = .int .i64 ((j : Int) - 1) ∧ F'.n = 196 ∧ j ≤ l.length ∧ k = j
def or2H (S0 : AS) (u : AV) (name : List Nat) (b9 : Nat) (l : List Att) (k : Nat) (F' : Fr) (S' : AS) : Prop :=
  ∃ i : Nat, Sub S0 S' ∧ sl F' 1 = u ∧ sl F' 2 = .str name ∧ sl F' 9 = .ptr b9 0 0 2 ∧ sl F' 21 = .bool ((l.take i).any fun a => decide (a.name = name)) ∧ sl F' 22 = .int .i64 i ∧ F'.n = 196 ∧ i ≤ l.length ∧ k = l.length - i
section
variable {S : AS}
set_option maxRecDepth 20000 in
set_option maxHeartbeats 4000000 in
theorem law4 {key name : List Nat} {u : AV} {l : List Att} {at_ : Nat} (hu : AttsAt S u l) (hat : at_ < 256) : CallW C0 4 [.str key, u, .str name, .int .u8 (at_ : Int)] S fun r T => r = .bool true := by
  have u1 := hu.sl.sl
  have u2 := hu.sl.len_flat encA_len (by omega)
  have uk := okW_sl hu.sl
  have hle := hu.le
  have uok := hu.sl.ok
  obtain ⟨k0, m, ok, ones, hrel⟩ := make_ones key l
  obtain ⟨r, T1, ⟨m1, hT1⟩, e1⟩ := (make5 (key := key) hu).ex
  obtain ⟨vx, rfl, ax⟩ := ones l _ _ _ (List.Perm.refl _) m1
  have n1 := hT1.next
  obtain ⟨er, her⟩ : ∃ er : Int, er = if ok then 0 else 30 := ⟨_, rfl⟩
  rw [← her] at ones e1
  obtain ⟨P1, hP1⟩ : ∃ P : AS, P = ⟨(T1.h.set T1.next (.row [.str [], .nils] 0 0 false 24)).set T1.next (.row [.str k0, vx] 0 0 false 24), T1.next + 1⟩ := ⟨_, rfl⟩
  have hSP1 : Sub T1 P1 := by rw [hP1]; exact sub1s
  have nP1 : P1.next = T1.next + 1 := by rw [hP1]
  have p9 : P1.h.get T1.next = some (.row [.str k0, vx] 0 0 false 24) := by rw [hP1]; exact get_set_same _ _ _
  have bP1 := hP1.symm
  clear hP1
  have hS1 := hT1.trans hSP1
  have ax1 := ax.sub hSP1
  have xc := ax.sl.cells
  have xok := ax.sl.ok
  have x1 := ax.sl.sl
  have x2 := ax.sl.len_flat encA_len (by omega)
  refine enterW (pu0 _) (pr0 _ rfl) h_fn4 rfl h_ok4 (by simp) fun F hn hs' => ?_
  rw [h_nt4] at hn
  have s0 := hs' 0
  have s1 := hs' 1
  have s2 := hs' 2
  have s3 := hs' 3
  clear hs'
  simp only [List.getElem?_cons_zero, List.getElem?_cons_succ, Option.getD_some] at s0 s1 s2 s3
  have w0 : IntKind.i64.wrap ((l.length : Int) - 1) = (l.length : Int) - 1 := IntWalk.i64_in _ (by omega)
  simp [s0, s1, s2, s3, e1, ex0, xc, bP1, u1, u2, uk, w0]
  refine loopP_of (or1H P1 key name u at_ T1.next er l) l.length ⟨l.length, .nils, Sub.refl _, by simpa using Gw.nil, .inl rfl, by simp [s0], by simp [s1], by simp [s2], by simp [s3], by simp, by simp, by simp, by simp, by simp, by simp [hn], Nat.le_refl _, rfl⟩ ?_
  clear s0 s1 s2 s3 hn e1 bP1 w0
  rintro k F' S' hn' ⟨j, w, hS, hg, hb, s0, s1, s2, s3, s9, s10, s11, s12, s13, hn, hj, hk⟩
  clear hn'
  have w1 := hg.1.sl
  have w2 := hg.1.len_flat encA_len (by omega)
  have wok := hg.1.ok
  have hSS := hS1.trans hS
  have huS := hu.sub hSS
  by_cases hj0 : 0 < j
  · obtain ⟨j, rfl⟩ : ∃ i, j = i + 1 := ⟨j - 1, by omega⟩
    have hjl : j < l.length := by omega
    have hx : l[j]? = some l[j] := List.getElem?_eq_getElem hjl
    have hd : l.drop j = l[j] :: l.drop (j + 1) := List.drop_eq_getElem_cons hjl
    have hlo := loadT_el (cx := C0) (e := 38) huS.sl encA_len (by omega) hx e_ag34 e_sz34
    generalize l[j] = a at hx hd hlo
    have hA5 : Sub S' ⟨S'.h.set S'.next (.row (encA a) 0 0 false 38), S'.next + 1⟩ := sub1
    have hg5 := hg.agree (T := ⟨S'.h.set S'.next (.row (encA a) 0 0 false 38), S'.next + 1⟩) (fun id e => hA5.h id (by have := hg.1.old; omega)) hA5.next
    have x5 : Sl (⟨S'.h.set S'.next (.row (encA a) 0 0 false 38), S'.next + 1⟩ : AS) (.slice S'.next 0 0 1 5 5 (some 1)) 5 ([a].flatMap encA) := by
      refine ⟨by simp [isSl, capB], ?_, by simp [sLen, encA, encV], by simp [bnd]⟩
      simp [rdS, rd_at, rdO_row, encA, encV]
    obtain ⟨w', V6, e6, g6, k6, n6, b6⟩ := app_big hg5 x5 (by simp; omega)
    have n6' : S'.next + 1 ≤ V6.next := n6
    have hgd : (l.drop (j + 1)).reverse ++ [a] = (l.drop j).reverse := by rw [hd]; simp
    rw [hgd] at g6
    have hS6 : Sub P1 V6 := ⟨fun id hid => by
      have := hS.next
      rw [k6 id (by show id < S'.next + 1; omega) (by omega)]
      exact (get_set_ne _ _ (by omega)).trans (hS.h id hid), by have := hS.next; omega⟩
    have b6' : bnd w' = 0 ∨ P1.next < bnd w' := by
      have : bnd w' = bnd w ∨ S'.next + 1 < bnd w' := b6
      have := hS.next
      omega
    have hfr := fresh_att a
    have q0 : ((j + 1 : Nat) : Int) - 1 = (j : Int) := by omega
    rw [q0] at s13
    have hw : IntKind.i64.wrap ((j : Int) - 1) = (j : Int) - 1 := IntWalk.i64_in _ (by omega)
    have q1 : (0 : Int) ≤ (j : Int) := by omega
    simp only [encA, encV] at hlo e6 hfr
    simp [s1, s11, s13, u1, u2, hjl, hlo, hfr, e6, g6.1.np, hw, q1]
    exact ⟨j, by omega, j, w', hS6, g6, b6', by simp [s0], by simp [s1], by simp [s2], by simp [s3], by simp [s9], by simp [s10], by simp, by simp [s12], by simp [hw], by simp [hn], by omega, rfl⟩
  · obtain rfl : j = 0 := by omega
    rw [List.drop_zero] at hg
    have hneg : ¬ (0 : Int) ≤ ((0 : Nat) : Int) - 1 := by decide
    obtain ⟨kk, hkk⟩ : ∃ kk, kk = at_ % (l.length + 1) := ⟨_, rfl⟩
    have hkl : kk ≤ l.length := by rw [hkk]; have := Nat.mod_lt at_ (show 0 < l.length + 1 by omega); omega
    have wl : IntKind.i64.wrap ((l.length : Int) + 1) = (l.length : Int) + 1 := IntWalk.i64_in _ (by omega)
    have wa := i64_of (y := at_) (by omega)
    have wm : ((at_ : Int)).tmod ((l.length : Int) + 1) = (kk : Int) := by rw [hkk, show ((l.length : Int) + 1) = ((l.length + 1 : Nat) : Int) by omega]; exact (Int.ofNat_tmod _ _).symm
    have wk := i64_of (y := kk) (by omega)
    have nz : ¬ ((l.length : Int) + 1) = 0 := by omega
    have y1 := cut_flat huS.sl encA_len (by omega) (l := kk) (k := l.length) hkl (Nat.le_refl _)
    rw [List.take_of_length_le (by simp)] at y1
    obtain ⟨v1, V1, e6, g6, k6, n6, b6⟩ := app_big (Gw.nil (S := S')) y1 (L := []) (by simp; omega)
    have hV1 : Sub S' V1 := ⟨fun id hid => k6 id hid (by simp [bnd]), n6⟩
    have y2 := cut_flat (huS.sub hV1).sl encA_len (by omega) (l := 0) (k := kk) (Nat.zero_le _) hkl
    obtain ⟨v2, V2, e7, g7, k7, n7, b7⟩ := app_big g6 y2 (by simp; omega)
    have b6' : bnd v1 = 0 ∨ S'.next < bnd v1 := by
      rcases b6 with h | h
      · left; rw [h]; rfl
      · exact .inr h
    have hV2 : Sub S' V2 := ⟨fun id hid => by rw [k7 id (by omega) (by omega)]; exact hV1.h id hid, by omega⟩
    simp only [List.nil_append, List.drop_zero, Nat.sub_zero] at g7
    have ag : AttsAt S' w l.reverse := ⟨hg.1, by simp; exact hu.le, fun a ha => hu.ok a (by simpa using ha)⟩
    have at2 : AttsAt V2 v2 (l.drop kk ++ l.take kk) := ⟨g7.1, by simp; omega, fun a ha => hu.ok a (by
      rcases List.mem_append.1 ha with h | h
      · exact List.mem_of_mem_drop h
      · exact List.mem_of_mem_take h)⟩
    simp at s13
    simp [s1, s3, s12, s13, u1, u2, wl, wa, wm, wk, nz, hn]
    refine draws [.p, .p, .p, .p, .e [], .p, .p, .p, .e [], .p] (n := 196) (by kernel_rfl) (by simp [hn]) ?_
    obtain ⟨r, T3, ⟨m3, hT3⟩, e3⟩ := (make5 (key := key) (ag.sub hV2)).ex
    obtain ⟨v3, rfl, a3⟩ := ones l.reverse _ _ _ (List.reverse_perm l) m3
    have n3 := hT3.next
    obtain ⟨P3, hP3⟩ : ∃ P : AS, P = ⟨(T3.h.set T3.next (.row [.str [], .nils] 0 0 false 24)).set T3.next (.row [.str k0, v3] 0 0 false 24), T3.next + 1⟩ := ⟨_, rfl⟩
    have hSP3 : Sub T3 P3 := by rw [hP3]; exact sub1s
    have nP3 : P3.next = T3.next + 1 := by rw [hP3]
    have p15 : P3.h.get T3.next = some (.row [.str k0, v3] 0 0 false 24) := by rw [hP3]; exact get_set_same _ _ _
    have bP3 := hP3.symm
    clear hP3
    have hQ3 := hT3.trans hSP3
    obtain ⟨r, T4, ⟨m4, hT4⟩, e4⟩ := (make5 (key := key) (at2.sub hQ3)).ex
    obtain ⟨v4, rfl, a4⟩ := ones (l.drop kk ++ l.take kk) _ _ _ (by
      have : (l.drop kk ++ l.take kk).Perm (l.take kk ++ l.drop kk) := List.perm_append_comm
      rwa [List.take_append_drop] at this) m4
    have n4 := hT4.next
    obtain ⟨P4, hP4⟩ : ∃ P : AS, P = ⟨(T4.h.set T4.next (.row [.str [], .nils] 0 0 false 24)).set T4.next (.row [.str k0, v4] 0 0 false 24), T4.next + 1⟩ := ⟨_, rfl⟩
    have hSP4 : Sub T4 P4 := by rw [hP4]; exact sub1s
    have nP4 : P4.next = T4.next + 1 := by rw [hP4]
    have p17 : P4.h.get T4.next = some (.row [.str k0, v4] 0 0 false 24) := by rw [hP4]; exact get_set_same _ _ _
    have bP4 := hP4.symm
    clear hP4
    have hQ4 := hT4.trans hSP4
    have hV4 := (hV2.trans hQ3).trans hQ4
    have nS' := hS.next
    have nV2 := hV2.next
    have nQ3 := hQ3.next
    have p9' : P4.h.get T1.next = some (.row [.str k0, vx] 0 0 false 24) := by rw [hV4.h _ (by omega), hS.h _ (by omega)]; exact p9
    have p15' : P4.h.get T3.next = some (.row [.str k0, v3] 0 0 false 24) := by rw [hQ4.h _ (by omega)]; exact p15
    have b3 := a3.sub (hSP3.trans hQ4)
    have b4 := a4.sub hSP4
    have bx := ax1.sub (hS.trans hV4)
    obtain ⟨r, T5, ⟨rfl, hT5⟩, e5⟩ := (evSame12 (a := k0) (b := k0) bx b3).ex
    simp only [decide_true, Bool.and_self] at e5
    have n5 := hT5.next
    have p9a := (hT5.h _ (by omega)).trans p9'
    have p15a := (hT5.h _ (by omega)).trans p15'
    have p17a := (hT5.h _ (by omega)).trans p17
    obtain ⟨r, T6, ⟨rfl, hT6⟩, e6'⟩ := (evSame12 (a := k0) (b := k0) (bx.sub hT5) (b4.sub hT5)).ex
    simp only [decide_true, Bool.and_self] at e6'
    have n6 := hT6.next
    have p9b := (hT6.h _ (by omega)).trans p9a
    have v3c := a3.sl.cells
    have v3o := a3.sl.ok
    have v4c := a4.sl.cells
    have v4o := a4.sl.ok
    have wok2 := okW_sl hg.1
    have v2ok := okW_sl g7.1
    have ul : sLen u = l.length := u2
    have bd : ∀ (F : Fr) (x : Tmp) (m : Nat), sl F x = .int .i64 (kk : Int) → bound F (some (.tmp x)) m = some kk := fun F x m h => by rw [bound_some, eval_tmp, h]; exact natOf_nat
    have c1 := fun (F : Fr) (x : Tmp) (h : sl F x = .int .i64 (kk : Int)) => sliceV_sub (cx := C0) (F := F) (t := 22) (lo := some (.tmp x)) (hi := none) (v := u) (l := kk) (k := l.length) e_st22 u1 (bd F x 0 h) (by rw [ul]; rfl) hkl (by omega)
    have c2 := fun (F : Fr) (x : Tmp) (h : sl F x = .int .i64 (kk : Int)) => sliceV_sub (cx := C0) (F := F) (t := 22) (lo := none) (hi := some (.tmp x)) (v := u) (l := 0) (k := kk) e_st22 u1 rfl (bd F x _ h) (Nat.zero_le _) (by omega)
    have xl : sLen vx = m.length := x2
    cases ok with
    | false =>
      obtain ⟨rfl, rfl⟩ := hrel
      simp only [Bool.false_eq_true, if_false] at her
      subst her
      simp [s0, s1, s2, s3, s9, s10, s11, s12, s13, u1, u2, c1, c2, e6, e7, e3, e4, ex0, bP3, bP4, p9', p15', xc, xok, okW_of xok, v3c, v3o, okW_of v3o, v4c, v4o, okW_of v4o, e5, p9a, p17a, e6', p9b, x1, x2, dWakes, eqS_eq]
    | true =>
      obtain ⟨hk0, hperm, hmay, hmk⟩ := hrel
      subst hk0
      simp only [if_true] at her
      subst her
      have hml := hperm.length_eq
      have hstr := mayL_str (evMay_parts hmay).1
      have bxq := bx.sub (hT5.trans hT6)
      obtain ⟨r, T7, ⟨m7, hT7⟩, e8⟩ := (make5 (key := k0) bxq).ex
      unfold MakeR at m7
      rw [hmk] at m7
      obtain ⟨v7, rfl, _, _, a7⟩ := m7
      have n7' := hT7.next
      obtain ⟨P7, hP7⟩ : ∃ P : AS, P = ⟨(T7.h.set T7.next (.row [.str [], .nils] 0 0 false 24)).set T7.next (.row [.str k0, v7] 0 0 false 24), T7.next + 1⟩ := ⟨_, rfl⟩
      have hSP7 : Sub T7 P7 := by rw [hP7]; exact sub1s
      have nP7 : P7.next = T7.next + 1 := by rw [hP7]
      have p19 : P7.h.get T7.next = some (.row [.str k0, v7] 0 0 false 24) := by rw [hP7]; exact get_set_same _ _ _
      have bP7 := hP7.symm
      clear hP7
      have hQ7 := hT7.trans hSP7
      have p9c : P7.h.get T1.next = some (.row [.str k0, vx] 0 0 false 24) := by rw [hQ7.h _ (by omega)]; exact p9b
      have bx7 := bxq.sub hQ7
      obtain ⟨r, T8, ⟨rfl, hT8⟩, e9⟩ := (evSame12 (a := k0) (b := k0) (a7.sub hSP7) bx7).ex
      simp only [decide_true, Bool.and_self] at e9
      have n8 := hT8.next
      have p9d := (hT8.h _ (by omega)).trans p9c
      obtain ⟨r, T9, ⟨rfl, hT9⟩, e10⟩ := (evMay10 (key := k0) (bx7.sub hT8)).ex
      rw [hmay] at e10
      have n9 := hT9.next
      have p9e := (hT9.h _ (by omega)).trans p9d
      have v7c := a7.sl.cells
      have v7o := a7.sl.ok
      have hS9 : Sub S' T9 := ((((hV4.trans (hT5.trans hT6)).trans hQ7).trans hT8).trans hT9)
      have bx9 := (bx7.sub hT8).sub hT9
      have hu9 := huS.sub hS9
      simp [s0, s1, s2, s3, s9, s10, s11, s12, s13, u1, u2, c1, c2, e6, e7, e3, e4, ex0, bP3, bP4, p9', p15', xc, xok, okW_of xok, v3c, v3o, okW_of v3o, v4c, v4o, okW_of v4o, e5, p9a, p17a, e6', p9b, x1, x2, e8, bP7, v7c, v7o, okW_of v7o, p19, p9c, e9, p9d, e10, p9e, hml, eqS_eq]
      refine loopP_of (or2H T9 u name T1.next l) l.length ⟨0, Sub.refl _, by simp [s1], by simp [s2], by simp [s9], by simp, by simp, by simp [hn], Nat.zero_le _, rfl⟩ ?_
      rintro k F2 S2 hn' ⟨i, hI, t1, t2, t9, t21, t22, hn2, hi, hk⟩
      clear hn'
      have nI := hI.next
      have bI := bx9.sub hI
      have hui := hu9.sub hI
      have q9 : S2.h.get T1.next = some (.row [.str k0, vx] 0 0 false 24) := by rw [hI.h _ (by omega)]; exact p9e
      by_cases hi' : i < l.length
      · have hx : l[i]? = some l[i] := List.getElem?_eq_getElem hi'
        have hw := wrap_succ (i := i) (by omega)
        have htk := any_step (f := fun a : Att => decide (a.name = name)) hi'
        have hmem : l[i] ∈ m := hperm.mem_iff.2 (List.getElem_mem hi')
        have hpp := isP_pAt (k := i) u1 (by rw [u2]; exact hi')
        obtain ⟨B0, hB0⟩ : ∃ B : AS, B = ⟨S2.h, S2.next + 1⟩ := ⟨_, rfl⟩
        have hSB : Sub S2 B0 := by rw [hB0]; exact ⟨fun _ _ => rfl, Nat.le_succ _⟩
        have nB : B0.next = S2.next + 1 := by rw [hB0]
        have bB0 := hB0.symm
        have qB : B0.h.get T1.next = some (.row [.str k0, vx] 0 0 false 24) := by rw [hB0]; exact q9
        clear hB0
        have hln := loadT_elf (cx := C0) (e := 9) (o := 0) (y := .str l[i].name) (hui.sub hSB).sl encA_len (by omega) hx rfl e_ag9
        have hgo := get_of hstr hmem
        generalize l[i] = a at hx htk hmem hln hgo
        obtain ⟨r, G1, ⟨rfl, hG1⟩, g1⟩ := (get8 (key := k0) (n := a.name) (bI.sub hSB)).ex
        rw [hgo] at g1
        simp only [getV, Option.getD_some, Option.isSome_some] at g1
        have nG1 := hG1.next
        obtain ⟨P8, hP8⟩ : ∃ P : AS, P = ⟨(G1.h.set S2.next (.row [.int .i64 0, .int .i64 0, .str [], .bool false] 0 0 false 36)).set S2.next (.row (encV a.val) 0 0 false 36), G1.next⟩ := ⟨_, rfl⟩
        have hSP8 : Sub S2 P8 := by
          rw [hP8]
          exact (((hSB.trans hG1).set _ _ (Nat.le_refl _) _ (Nat.le_refl _)).set _ _ (Nat.le_refl _) _ (Nat.le_refl _))
        have p23 : P8.h.get S2.next = some (.row (encV a.val) 0 0 false 36) := by rw [hP8]; exact get_set_same _ _ _
        have bP8 := hP8.symm
        clear hP8
        have hu8 := hui.sub hSP8
        have hlv := loadT_ela (cx := C0) (e := 36) (o := 1) (n' := 4) hu8.sl encA_len (by omega) hx (by omega) e_ag32 e_sz32
        have hl8 := loadT_elf (cx := C0) (e := 9) (o := 0) (y := .str a.name) hu8.sl encA_len (by omega) hx rfl e_ag9
        have hne := fun c => neV c a.val a.val
        simp only [encA, encV, List.drop, List.take, decide_true, Bool.not_true] at hlv bP8 p23 g1 hne
        simp [t1, t2, t9, t21, t22, u1, u2, hi', hn2]
        refine draws [.r 0 0, .p, .p, .p, .p, .r 0 0, .e [], .p, .p, .p, .f, .e [10], .p] (n := 196) (by kernel_rfl) (by simp [hn2]) ?_
        simp [t1, t2, t9, t21, t22, u1, u2, hi', bB0, fieldP_add hpp, hln, qB, xc, xok, okW_of xok, g1, ex0, bP8, hn2]
        refine still_ok (n := 196) (by kernel_rfl) (by simp [hn2]) ?_
        have hcl : ∀ b : Bool, (b = true ∨ b = false) := fun b => by cases b <;> simp
        rcases hcl ((l.take i).any fun a => decide (a.name = name)) with hb | hb
        · rw [hb] at t21 htk
          simp [t1, t2, t9, t21, t22, u1, u2, hi', fieldP_add hpp, p23, hlv, hne, hl8, eqS_dec, hw, uok, okV_addP]
          exact ⟨l.length - (i + 1), by omega, i + 1, hI.trans hSP8, by simp [t1], by simp [t2], by simp [t9], by simp [htk], by simp [hw], by simp [hn2], hi', rfl⟩
        · rw [hb] at t21 htk
          simp [t1, t2, t9, t21, t22, u1, u2, hi', fieldP_add hpp, p23, hlv, hne, hl8, eqS_dec, hw, uok, okV_addP]
          exact ⟨l.length - (i + 1), by omega, i + 1, hI.trans hSP8, by simp [t1], by simp [t2], by simp [t9], by simp [htk], by simp [hw], by simp [hn2], hi', rfl⟩
      · obtain rfl : i = l.length := by omega
        rw [List.take_of_length_le (Nat.le_refl _)] at t21
        obtain ⟨r, G1, ⟨rfl, hG1⟩, g1⟩ := (get8 (key := k0) (n := name) bI).ex
        have hsm := get_some_iff m name
        have hany : (m.any fun a => decide (a.name = name)) = l.any fun a => decide (a.name = name) := any_perm hperm
        rw [hany] at hsm
        simp only [getV] at g1
        rw [hsm] at g1
        generalize (l.any fun a => decide (a.name = name)) = b at t21 g1
        generalize (getA m name).getD zeroV = z at g1
        simp only [encV] at g1
        simp [t1, t2, t9, t21, t22, u1, u2, q9, xc, xok, okW_of xok, g1, ex0, h_und4, dWakes]
end
end Go.Proofs.YtpglcebeldgeeaaDoor.val
