/-
  The way that is found: the closure of 'Path'.
-/
import Derived.Test.YtpjebmdeaieniaaTreeFns
namespace Go.Proofs.Ytpjebmdeaieniaa.tree
open Go Go.Am
set_option linter.unusedVariables false
set_option linter.unusedSimpArgs false

/-- What the closure has captured. -/
structure EnvP (S : AS) (bt bb bf i to : Nat) : Prop where
  to_ : S.h.get bt = some (.row [.int .i64 to] 0 0 false 3)
  tr : S.h.get bb = some (.row [.ptr i 0 0 1] 0 0 false 24)
  fn : S.h.get bf = some (.row [.func (.func 25) [] [.ptr bt 0 0 1, .ptr bb 0 0 1, .ptr bf 0 0 1]] 0 0 false 54)
  lt1 : bt < S.next
  lt2 : bb < S.next
  lt3 : bf < S.next
theorem EnvP.sub {S T : AS} {bt bb bf i to : Nat} (h : EnvP S bt bb bf i to) (hs : Sub S T) : EnvP T bt bb bf i to :=
  ⟨by rw [hs.h _ h.lt1]; exact h.to_, by rw [hs.h _ h.lt2]; exact h.tr, by rw [hs.h _ h.lt3]; exact h.fn, Nat.lt_of_lt_of_le h.lt1 hs.next, Nat.lt_of_lt_of_le h.lt2 hs.next, Nat.lt_of_lt_of_le h.lt3 hs.next⟩

/-- How far the search may go yet. -/
def far (p : Nat → Nat) (n : Nat) (prev : Option Nat) (at_ : Nat) : Nat := if 0 < at_ ∧ prev = some (p at_) then n - at_ else n + at_ + 1
theorem far_step {p : Nat → Nat} (hp : Par p) {n at_ b : Nat} {prev : Option Nat} (ha : at_ < n) (hb : b < n) (hn : nb p at_ b) (hne : prev ≠ some b) : far p n (some at_) b < far p n prev at_ := by
  unfold far
  rcases hn with ⟨h1, rfl⟩ | ⟨h1, rfl⟩
  · have := hp at_ h1
    have h3 : ¬ (0 < p at_ ∧ some at_ = some (p (p at_))) := by
      rintro ⟨h4, h5⟩
      have := hp _ h4
      simp only [Option.some.injEq] at h5
      omega
    have h4 : ¬ (0 < at_ ∧ prev = some (p at_)) := fun h => hne h.2
    rw [if_neg h3, if_neg h4]
    omega
  · have := hp b h1
    rw [if_pos ⟨h1, rfl⟩]
    split <;> omega

def Found (p : Nat → Nat) (prev : Option Nat) (at_ to : Nat) : Prop := prev = none ∨ nx p at_ to ≠ prev
def adjs (p : Nat → Nat) (n : Nat) : List (List Nat) := (List.range n).map (adjOf p n)
theorem adjs_get {p : Nat → Nat} {n i : Nat} (h : i < n) : (adjs p n)[i]? = some (adjOf p n i) := by simp [adjs, h]
theorem adjs_len (p : Nat → Nat) (n : Nat) : (adjs p n).length = n := by simp [adjs]
theorem adj_len {p : Nat → Nat} (n i : Nat) : (adjOf p n i).length ≤ n + 1 := by
  unfold adjOf
  rw [List.length_append]
  have h1 : ((List.range n).filter fun j => decide (0 < j) && decide (p j = i)).length ≤ n := by
    have := List.length_filter_le (fun j => decide (0 < j) && decide (p j = i)) (List.range n)
    simpa using this
  have h2 : (if i = 0 then ([] : List Nat) else [p i]).length ≤ 1 := by split <;> simp
  omega

theorem fn25 : C0.fns.get 25 = some Try.f25 := by kernel_rfl
theorem ok25 : codeOk C0 Try.f25.ntmps (Try.f25.body.getD .skip) = true := by kernel_rfl
theorem nt25 : Try.f25.ntmps = 56 := by kernel_rfl

set_option maxHeartbeats 4000000 in
theorem find {p : Nat → Nat} (hp : Par p) {n : Nat} (hn64 : n ≤ 64) {bt bb bf ti to : Nat} {vb : AV} {vs : List AV} (hto : to < n) : ∀ (M : Nat) (S : AS) (wv : AV) (pre : List Nat) (at_ : Nat), at_ < n → TrP S ti vb vs (adjs p n) → EnvP S bt bb bf ti to →
    Sl S wv 1 (ints (pre ++ [at_])) → far p n pre.getLast? at_ ≤ M → pre.length + M ≤ 200 →
    CallW C0 25 [wv, .ptr bt 0 0 1, .ptr bb 0 0 1, .ptr bf 0 0 1] S fun v T => Sub S T ∧ (Found p pre.getLast? at_ to → Sl T v 1 (ints (pre ++ way p at_ to))) ∧ (¬ Found p pre.getLast? at_ to → v = .nils) := by
  intro M
  induction M with
  | zero =>
    intro S wv pre at_ ha _ _ _ hf _
    unfold far at hf
    split at hf <;> omega
  | succ M ih =>
    intro S wv pre at_ ha hT hE hw hf hlen
    refine enterW (pu0 _) (pr0 _ rfl) fn25 rfl ok25 (by simp) fun F hn hs => ?_
    rw [nt25] at hn
    have s0 := hs 0
    have s1 := hs 1
    have s2 := hs 2
    have s3 := hs 3
    clear hs
    simp only [List.getElem?_cons_zero, List.getElem?_cons_succ, Option.getD_some] at s0 s1 s2 s3
    obtain ⟨L, hL⟩ : ∃ L, L = pre.length + 1 := ⟨_, rfl⟩
    have w1 := hw.sl
    have w2 : sLen wv = L := by rw [hw.len1, ints_len, hL]; simp
    have w3 : IntKind.i64.wrap ((L : Int) - 1) = ((L - 1 : Nat) : Int) := by rw [IntWalk.i64_in _ (by omega)]; omega
    have w4 : L - 1 < L := by omega
    have w5 : loadT C0 S 3 (pAt wv (L - 1)) = some (.int .i64 at_) := loadT_sl hw (ints_get (by rw [hL]; simp)) ag3
    have e1 := hE.to_
    have e2 := hE.tr
    have e3 := hE.fn
    have t1 := hT.at_
    by_cases hat : at_ = to
    · subst hat
      have hfd : Found p pre.getLast? at_ at_ := by
        unfold Found
        rw [nx_none hp]
        cases pre.getLast? <;> simp
      have hwy : ints (pre ++ way p at_ at_) = ints (pre ++ [at_]) := by rw [way_same hp]
      simp [s0, s1, s2, s3, w1, w2, w3, w4, w5, st22, e1, ag3, hw.np, Sub.refl, hfd, hwy, hw]
    · obtain ⟨av, a1, a2⟩ := hT.row at_ _ (adjs_get ha)
      have b1 := hT.sl.sl
      have b2 : sLen vb = n := by rw [hT.sl.len1, hT.len, adjs_len]
      have b3 := loadT_sl (cx := C0) (e := 22) hT.sl a1 ag22
      have c1 := a2.sl
      have c2 : sLen av = (adjOf p n at_).length := by rw [a2.len1, ints_len]
      have hat' : ¬ ((at_ : Int) = (to : Int)) := by omega
      simp [s0, s1, s2, s3, w1, w2, w3, w4, w5, st22, st50, e1, e2, t1, ag3, ag24, ag50, fa52, hat', b1, b2, ha, b3, c1, c2]
      refine loopP_of (fun k F' S' => ∃ i : Nat, Sub S S' ∧ sl F' 0 = wv ∧ sl F' 1 = .ptr bt 0 0 1 ∧ sl F' 2 = .ptr bb 0 0 1 ∧ sl F' 3 = .ptr bf 0 0 1 ∧ sl F' 26 = av ∧ sl F' 27 = .int .i64 (adjOf p n at_).length ∧ sl F' 28 = .int .i64 i ∧
        i ≤ (adjOf p n at_).length ∧ k = (adjOf p n at_).length - i ∧ ∀ j b, j < i → (adjOf p n at_)[j]? = some b → pre.getLast? = some b ∨ nx p at_ to ≠ some b) (adjOf p n at_).length
        ⟨0, by simp [s0, s1, s2, s3, Sub.refl]⟩ ?_
      rintro k F' S' hn' ⟨i, hsub, r0, r1, r2, r3, r26, r27, r28, hi, hk, hdone⟩
      have hn2 : F'.n = 56 := by rw [hn']; simp [hn]
      clear hn' s0 s1 s2 s3 hn e1 e2 e3 t1 w5 b3
      have hT' := hT.sub hsub
      have hE' := hE.sub hsub
      have hw' := hw.toSub hsub
      have a2' := a2.toSub hsub
      by_cases hil : i < (adjOf p n at_).length
      · obtain ⟨b, hb⟩ : ∃ b, (adjOf p n at_)[i]? = some b := ⟨_, List.getElem?_eq_getElem hil⟩
        have d1 := loadT_sl (cx := C0) (e := 3) a2' (ints_get hb) ag3
        have hbm : b ∈ adjOf p n at_ := List.mem_of_getElem? hb
        obtain ⟨hnb, hbn⟩ := (mem_adj hp ha).1 hbm
        have hl2 : (pre ++ [at_]).length = L := by rw [hL]; simp
        have hwi : IntKind.i64.wrap ((i : Int) + 1) = ((i + 1 : Nat) : Int) := wrap_succ (by have := adj_len (p := p) n at_; omega)
        have g2 : ∀ x, pre.getLast? = some x → 1 < L ∧ IntKind.i64.wrap ((L : Int) - 2) = ((L - 2 : Nat) : Int) ∧ L - 2 < L ∧ loadT C0 S' 3 (pAt wv (L - 2)) = some (.int .i64 x) := by
          intro x hx
          obtain ⟨q, rfl⟩ : ∃ q, pre = q ++ [x] := by
            rw [List.getLast?_eq_some_iff] at hx; exact hx
          have h1 : L = q.length + 2 := by rw [hL]; simp
          refine ⟨by omega, by rw [IntWalk.i64_in _ (by omega)]; omega, by omega, loadT_sl hw' (ints_get ?_) ag3⟩
          rw [show L - 2 = q.length by omega]
          simp
        by_cases hprev : pre.getLast? = some b
        · obtain ⟨k1, k2, k3, k4⟩ := g2 b hprev
          have k1' : (1 : Int) < L := by omega
          simp [r0, r26, r27, r28, hil, st22, c1, c2, d1, w1, w2, ag3, k1', k2, k3, k4]
          refine ⟨(adjOf p n at_).length - (i + 1), by omega, hsub, r1, r2, r3, i + 1, hwi, by omega, rfl, fun j b' hj hb' => ?_⟩
          rcases Nat.lt_or_ge j i with h1 | h1
          · exact hdone j b' h1 hb'
          · obtain rfl : j = i := by omega
            rw [hb] at hb'; cases hb'
            exact .inl hprev
        · -- the search below b
          have hwA : Sl (⟨S'.h, S'.next + 1⟩ : AS) wv 1 (ints (pre ++ [at_])) := ⟨w1, hw'.rd, hw'.len, Nat.le_succ_of_le hw'.old⟩
          have hll : (ints (pre ++ [at_])).length = L := by rw [ints_len, hl2]
          obtain ⟨v1, T1, ⟨q1, q2, _, q4, _⟩, e47⟩ := (clone hwA (by rw [hll, hL]; omega)).ex
          have q4' : Own T1 (S'.next + 1) v1 1 3 (ints (pre ++ [at_])) := q4 (by intro h; rw [h] at hll; simp at hll; omega)
          have nT1 : S'.next + 1 ≤ T1.next := q1.next
          have gT1 : ∀ id, id < S'.next → T1.h.get id = S'.h.get id := fun id h => q1.h id (Nat.lt_succ_of_lt h)
          have ownB : Own (⟨T1.h.set S'.next (.row [.int .i64 b] 0 0 false 3), T1.next⟩ : AS) (S'.next + 1) v1 1 3 (ints (pre ++ [at_])) := q4'.keep (fun id h1 _ => get_set_ne _ _ (by omega)) (Nat.le_refl _)
          have slB : Sl (⟨T1.h.set S'.next (.row [.int .i64 b] 0 0 false 3), T1.next⟩ : AS) (.slice S'.next 0 0 1 1 1 (some 1)) 1 [.int .i64 b] := by
            refine ⟨by simp, ?_, rfl, by simp [bnd]; omega⟩
            simp [rdS, rd_at, get_set_same, rdO_row]
          have lv1 : sLen v1 = L := by rw [q2.len1, hll]
          obtain ⟨v2, T2, e50, own2, stay2, _, _, _⟩ := append_own (cx := C0) (ts := []) (lo := S'.next + 1) st22 un22 rfl ownB nT1 slB (by rw [lv1]; simp [sLen, fits, nble]; omega)
          have subT2 : Sub S' T2 := ⟨fun id h => by
            rw [stay2.h id (Nat.lt_succ_of_lt h)]
            show (T1.h.set S'.next _).get id = _
            rw [get_set_ne _ _ (by omega)]; exact gT1 id h, Nat.le_trans (Nat.le_trans (Nat.le_succ _) nT1) stay2.next⟩
          have own2' : Sl T2 v2 1 (ints ((pre ++ [at_]) ++ [b])) := by rw [ints_append (pre ++ [at_]) [b]]; exact own2.sl
          have hfar : far p n (pre ++ [at_]).getLast? b ≤ M := by
            have := far_step hp ha hbn hnb hprev
            rw [List.getLast?_append]
            simp only [List.getLast?_singleton, Option.some_or]
            omega
          obtain ⟨v3, T3, ⟨subT3, hF, hN⟩, e51⟩ := (ih T2 v2 (pre ++ [at_]) b hbn (hT'.sub subT2) (hE'.sub subT2) own2' hfar (by simp; omega)).ex
          have f0 := hE'.fn
          have f1 : T1.h.get bf = some (.row [.func (.func 25) [] [.ptr bt 0 0 1, .ptr bb 0 0 1, .ptr bf 0 0 1]] 0 0 false 54) := by rw [gT1 bf hE'.lt3]; exact f0
          have f2 := (hE'.sub subT2).fn
          have subSS : Sub S' T3 := subT2.trans subT3
          have last' : (pre ++ [at_]).getLast? = some at_ := by simp
          have np3 : isPanB v3 = false := by
            by_cases h : Found p (pre ++ [at_]).getLast? b to
            · exact (hF h).np
            · rw [hN h]; rfl
          rcases edge_iff hp hnb to with ⟨y1, y2, y3⟩ | ⟨y1, y2, y3⟩
          · have hfd : Found p (pre ++ [at_]).getLast? b to := by rw [last']; exact .inr y3
            have hv3 := hF hfd
            have hv3' : Sl T3 v3 1 (ints (pre ++ way p at_ to)) := by rw [y1]; simpa using hv3
            have nn : isNil v3 = false := hv3.notNil (by simp [ints])
            have hfd2 : Found p pre.getLast? at_ to := by
              unfold Found
              right; rw [y2]; exact fun e => hprev e.symm
            cases hpl : pre.getLast? with
            | none =>
              have hpre : pre = [] := by simpa using hpl
              have k1' : ¬ (1 : Int) < L := by rw [hL, hpre]; simp
              simp [r0, r26, r27, r28, hil, st22, c1, c2, d1, w1, w2, ag3, k1']
              refine draws [.r 0 2, .p, .e [], .p, .f, .e [4], .e [4], .p] (n := 56) (by kernel_rfl) (by simp [hn2]) ?_
              simp [r0, r1, r2, r3, r26, r27, r28, st22, ag3, ag54, ex0, f0, f1, f2, e47, e50, e51, np3, hv3.sl, nn]
              rw [hpl] at hfd2
              exact ⟨hsub.trans subSS, fun _ => hv3', fun h => absurd hfd2 h⟩
            | some x =>
              obtain ⟨k1, k2, k3, k4⟩ := g2 x hpl
              have k1' : (1 : Int) < L := by omega
              have hbx : ¬ ((b : Int) = (x : Int)) := by intro e; exact hprev (by rw [hpl]; congr 1; omega)
              simp [r0, r26, r27, r28, hil, st22, c1, c2, d1, w1, w2, ag3, k1', k2, k3, k4, hbx]
              refine draws [.r 0 2, .p, .e [], .p, .f, .e [4], .e [4], .p] (n := 56) (by kernel_rfl) (by simp [hn2]) ?_
              simp [r0, r1, r2, r3, r26, r27, r28, st22, ag3, ag54, ex0, f0, f1, f2, e47, e50, e51, np3, hv3.sl, nn]
              rw [hpl] at hfd2
              exact ⟨hsub.trans subSS, fun _ => hv3', fun h => absurd hfd2 h⟩
          · have hfd : ¬ Found p (pre ++ [at_]).getLast? b to := by
              rw [last']
              rintro (h | h)
              · cases h
              · exact h y2
            have hv3 := hN hfd
            subst hv3
            have hnext : ∀ j b', j < i + 1 → (adjOf p n at_)[j]? = some b' → pre.getLast? = some b' ∨ nx p at_ to ≠ some b' := by
              intro j b' hj hb'
              rcases Nat.lt_or_ge j i with h1 | h1
              · exact hdone j b' h1 hb'
              · obtain rfl : j = i := by omega
                rw [hb] at hb'; cases hb'
                exact .inr y3
            cases hpl : pre.getLast? with
            | none =>
              have hpre : pre = [] := by simpa using hpl
              have k1' : ¬ (1 : Int) < L := by rw [hL, hpre]; simp
              simp [r0, r26, r27, r28, hil, st22, c1, c2, d1, w1, w2, ag3, k1']
              refine draws [.r 0 2, .p, .e [], .p, .f, .e [4], .e [4], .p] (n := 56) (by kernel_rfl) (by simp [hn2]) ?_
              simp [r0, r1, r2, r3, r26, r27, r28, st22, ag3, ag54, ex0, f0, f1, f2, e47, e50, e51]
              exact ⟨_, by omega, hsub.trans subSS, i + 1, hwi, by omega, rfl, fun j b' hj hb' => by have := hnext j b' hj hb'; rw [hpl] at this; simpa using this⟩
            | some x =>
              obtain ⟨k1, k2, k3, k4⟩ := g2 x hpl
              have k1' : (1 : Int) < L := by omega
              have hbx : ¬ ((b : Int) = (x : Int)) := by intro e; exact hprev (by rw [hpl]; congr 1; omega)
              simp [r0, r26, r27, r28, hil, st22, c1, c2, d1, w1, w2, ag3, k1', k2, k3, k4, hbx]
              refine draws [.r 0 2, .p, .e [], .p, .f, .e [4], .e [4], .p] (n := 56) (by kernel_rfl) (by simp [hn2]) ?_
              simp [r0, r1, r2, r3, r26, r27, r28, st22, ag3, ag54, ex0, f0, f1, f2, e47, e50, e51]
              exact ⟨_, by omega, hsub.trans subSS, i + 1, hwi, by omega, rfl, fun j b' hj hb' => by have := hnext j b' hj hb'; rw [hpl] at this; simpa using this⟩
      · simp [r0, r26, r27, r28, hil, hsub]
        intro hfd
        exfalso
        obtain ⟨y, y1, y2, y3⟩ := nx_some hp hat
        have hyn : y < n := by
          rcases y2 with ⟨q1, q2⟩ | ⟨q1, q2⟩
          · have := hp _ q1; omega
          · have hy : y ∈ way p at_ to := by rw [y3]; obtain ⟨r, e⟩ := way_head hp y to; rw [e]; simp
            have := way_le hp _ _ _ hy; omega
        obtain ⟨j, hj⟩ := List.getElem?_of_mem ((mem_adj hp ha).2 ⟨y2, hyn⟩)
        have hjl := (List.getElem?_eq_some_iff.1 hj).1
        rcases hdone j y (by omega) hj with h1 | h1
        · rcases hfd with h2 | h2
          · rw [h1] at h2; cases h2
          · exact h2 (by rw [y1, h1])
        · exact h1 y1
end Go.Proofs.Ytpjebmdeaieniaa.tree
