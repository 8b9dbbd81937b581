/-
  'JudgeMisses': its first parts, by the logic.
  'JudgeMisses': what stands behind its first parts; lists of fewer than two numbers.
  'JudgeMisses': from its arguments; numbers become symbols.
-/
import Derived.Test.YtpgmahedcpepkaaGreatDoorPartD
import Derived.Test.YtpgmahedcpepkaaGreatDoorAmRow
import Derived.Test.YtpgmahedcpepkaaGreatDoorAmPiece
import Derived.Test.YtpgmahedcpepkaaGreatDoorAmArgs
namespace Go.Proofs.YtpgmahedcpepkaaGreatDoor.mis
open Go Go.RowKit Go.Am
set_option linter.unusedVariables false
set_option linter.unusedSimpArgs false

@[simp] theorem st22 : slT C 22 = some (2, 1, 8) := by kernel_rfl
@[simp] theorem ag22 : aggOf C 22 = some false := by kernel_rfl
@[simp] theorem cv5_3 : convT C 5 3 = some .i64 := by kernel_rfl
section
variable {Λ : LB}
theorem goesRuns {P : Program} {cx : Cx} (hcx : CxOk Λ P cx) (hd : DrawnOk Λ P cx) {c : Code} {F : Fr} {S : AS} {o : Out} (h : Runs cx c F S o) : Goes Λ P c F S o := let ⟨n, h⟩ := h; goes_exec hcx hd h
theorem goes3 (hcx : CxOk Λ Tryz.prog C) (hd : DrawnOk Λ Tryz.prog C) {x y c : Code} {F : Fr} {S : AS} {o1 o2 o3 : Out} (hb : Tryz.f3.body = some (.seq x (.seq y c)))
    (h1 : Runs C x F S o1) (e1 : o1.ex = .normal) (h2 : Runs C y o1.F o1.S o2) (e2 : o2.ex = .normal) (h : Goes Λ Tryz.prog c o2.F o2.S o3) : Goes Λ Tryz.prog body F S o3 := by
  unfold body
  rw [hb]
  exact goes_seq e1 (goesRuns hcx hd h1) (goes_seq e2 (goesRuns hcx hd h2) h)
theorem goes6 (hcx : CxOk Λ Tryz.prog C) (hd : DrawnOk Λ Tryz.prog C) {x t : Code} {F : Fr} {S : AS} {o1 o2 : Out} (hb : tailC 4 rest = .seq x t)
    (h1 : Runs C x F S o1) (e1 : o1.ex = .normal) (h : Goes Λ Tryz.prog t o1.F o1.S o2) : Goes Λ Tryz.prog (tailC 4 rest) F S o2 := by
  rw [hb]
  exact goes_seq e1 (goesRuns hcx hd h1) h
theorem head_go (hcx : CxOk Λ Tryz.prog C) (hd : DrawnOk Λ Tryz.prog C) {len lim m a : Nat} {S : AS} {o2 : Out} (hm : m = min len 8) (hl : len ≤ lim)
    (h : Goes Λ Tryz.prog rest (F2 len lim m a) S o2) : Goes Λ Tryz.prog body (F0 len lim a) S o2 := by
  refine goes3 hcx hd (o1 := ⟨.normal, F1 len lim a, S⟩) (o2 := ⟨.normal, F2 len lim m a, S⟩) rfl ?_ rfl ?_ rfl h
  · refine Runs.wp (by kernel_rfl) ?_
    have hn : (F0 len lim (a : Int)).n = 131 := rfl
    simp [hn]
    rfl
  · refine Runs.wp (by kernel_rfl) ?_
    obtain ⟨v, hv⟩ : ∃ v : AV, v = .slice 0 1 0 len lim 1 (some lim) := ⟨_, rfl⟩
    have s0 : sl (F1 len lim (a : Int)) 0 = v := by rw [hv]; rfl
    have hn : (F1 len lim (a : Int)).n = 131 := rfl
    have u1 : isSl 1 v = true := by rw [hv]; simp [hl]
    have u2 : sLen v = len := by rw [hv]; rfl
    have uk : okW v = true := by rw [hv]; rfl
    have hmm : (if (8 : Int) < len then (8 : Int) else len) = (m : Int) := by subst hm; split <;> omega
    have hcut : subA v 0 m = .slice 0 1 0 m lim 1 (some lim) := by
      rw [hv]
      by_cases h0 : lim = 0
      · have hm0 : m = 0 := by omega
        subst hm0; subst h0; rfl
      · simp [subA, cutV, forceN_eq, nbeq, h0]
    have hml : m ≤ len := by omega
    simp [s0, hn, u1, u2, uk, hmm, hml, hcut]
    rw [hv]; rfl
/-- Which place is left out. -/
theorem mid_go (hcx : CxOk Λ Tryz.prog C) (hd : DrawnOk Λ Tryz.prog C) {F : Fr} {S : AS} {m lim a : Nat} {o2 : Out} (s0 : sl F 0 = .slice 0 1 0 m lim 1 (some lim)) (s1 : sl F 1 = .int .u8 a) (hn : F.n = 131) (h2 : 2 ≤ m) (h8 : m ≤ 8) (hl : m ≤ lim) (ha : a < 256)
    (h : Goes Λ Tryz.prog tail (F3 F m a (a % (m - 1))) S o2) : Goes Λ Tryz.prog (tailC 4 rest) F S o2 := by
  refine goes6 hcx hd (o1 := ⟨.normal, F3 F m a (a % (m - 1)), S⟩) rfl ?_ rfl h
  refine Runs.wp (by rw [hn]; kernel_rfl) ?_
  have hF : F3 F m a (a % (m - 1)) = up (up (up (up (up (up (up F (some 35) (.int .u8 a)) (some 36) (.int .i64 a)) (some 37) (.slice 0 1 0 m lim 1 (some lim))) (some 38) (.int .i64 m)) (some 39) (.int .i64 ((m : Int) - 1))) (some 40) (.int .i64 (a % (m - 1) : Nat))) (some 8) (.int .i64 (a % (m - 1) : Nat)) := by
    unfold F3; rw [s0]
  rw [hF]
  obtain ⟨v, hv⟩ : ∃ v : AV, v = .slice 0 1 0 m lim 1 (some lim) := ⟨_, rfl⟩
  rw [← hv] at s0 ⊢
  have u1 : isSl 1 v = true := by rw [hv]; simp [hl]
  have u2 : sLen v = m := by rw [hv]; rfl
  have uk : okW v = true := by rw [hv]; rfl
  have w1 : IntKind.i64.wrap (a : Int) = a := wrap_i64 (by omega) (by omega)
  have w2 : IntKind.i64.wrap ((m : Int) - 1) = (m : Int) - 1 := wrap_i64 (by omega) (by omega)
  have hz : (m : Int) - 1 ≠ 0 := by omega
  have hr : (a : Int).tmod ((m : Int) - 1) = ((a % (m - 1) : Nat) : Int) := by
    rw [show (m : Int) - 1 = ((m - 1 : Nat) : Int) by omega]; rfl
  simp [s0, s1, hn, u1, u2, uk, w1, w2, bin_rem hz, hr]
theorem headR_of (hcx : CxOk Λ Tryz.prog C) (hd : DrawnOk Λ Tryz.prog C) {len lim ty m : Nat} {r : List AV} {a : Int} {o2 : Out} (h : okR (headR len lim r ty m a) = true)
    (g : Goes Λ Tryz.prog (tailC 4 rest) (outF (headR len lim r ty m a)) (outS (headR len lim r ty m a)) o2) : Goes Λ Tryz.prog rest (F2 len lim m a) (S0 m r ty) o2 := by
  obtain ⟨F, S, e⟩ : ∃ F S, headR len lim r ty m a = .ok ⟨.normal, F, S⟩ [] := by
    unfold okR at h
    split at h
    · rename_i F S e; exact ⟨F, S, e⟩
    · cases h
  rw [e] at g
  exact front_goes hcx hd 4 rest _ _ _ o2 e g
end
end Go.Proofs.YtpgmahedcpepkaaGreatDoor.mis

namespace Go.Proofs.YtpgmahedcpepkaaGreatDoor.mis
open Go Go.Am

theorem t23 : tailC 1 tail2 = tail3 := by kernel_rfl
theorem n0 (a : Int) : true = pieceB (execK C 1000000 body (initF [.nils, .int .u8 a] 131) ⟨.leaf, 9⟩) 1 vsE [] 12 := by kernel_rfl
theorem z0 (lim : Nat) (a : Int) : true = pieceB (execK C 1000000 rest (F2 0 lim 0 a) ⟨.leaf, 9⟩) 1 vsE [] 12 := by kernel_rfl
theorem z1 (lim : Nat) (a : Int) : true = pieceB (execK C 1000000 rest (F2 1 lim 1 a) ⟨.leaf, 9⟩) 1 vsE [] 12 := by kernel_rfl
theorem k2 (len r ty : Nat) (l : List AV) (a : Int) : okR (headR len (r + 2) l ty 2 a) = true := by kernel_rfl
theorem kn2 (len r ty : Nat) (l : List AV) (a : Int) : (outF (headR len (r + 2) l ty 2 a)).n = 131 := by kernel_rfl
theorem ks2 (len r ty : Nat) (l : List AV) (a : Int) : sl (outF (headR len (r + 2) l ty 2 a)) 0 = .slice 0 1 0 2 (r + 2) 1 (some (r + 2)) := by kernel_rfl
theorem ka2 (len r ty : Nat) (l : List AV) (a : Int) : sl (outF (headR len (r + 2) l ty 2 a)) 1 = .int .u8 a := by kernel_rfl
theorem k3 (len r ty : Nat) (l : List AV) (a : Int) : okR (headR len (r + 3) l ty 3 a) = true := by kernel_rfl
theorem kn3 (len r ty : Nat) (l : List AV) (a : Int) : (outF (headR len (r + 3) l ty 3 a)).n = 131 := by kernel_rfl
theorem ks3 (len r ty : Nat) (l : List AV) (a : Int) : sl (outF (headR len (r + 3) l ty 3 a)) 0 = .slice 0 1 0 3 (r + 3) 1 (some (r + 3)) := by kernel_rfl
theorem ka3 (len r ty : Nat) (l : List AV) (a : Int) : sl (outF (headR len (r + 3) l ty 3 a)) 1 = .int .u8 a := by kernel_rfl
theorem k4 (len r ty : Nat) (l : List AV) (a : Int) : okR (headR len (r + 4) l ty 4 a) = true := by kernel_rfl
theorem kn4 (len r ty : Nat) (l : List AV) (a : Int) : (outF (headR len (r + 4) l ty 4 a)).n = 131 := by kernel_rfl
theorem ks4 (len r ty : Nat) (l : List AV) (a : Int) : sl (outF (headR len (r + 4) l ty 4 a)) 0 = .slice 0 1 0 4 (r + 4) 1 (some (r + 4)) := by kernel_rfl
theorem ka4 (len r ty : Nat) (l : List AV) (a : Int) : sl (outF (headR len (r + 4) l ty 4 a)) 1 = .int .u8 a := by kernel_rfl
theorem k5 (len r ty : Nat) (l : List AV) (a : Int) : okR (headR len (r + 5) l ty 5 a) = true := by kernel_rfl
theorem kn5 (len r ty : Nat) (l : List AV) (a : Int) : (outF (headR len (r + 5) l ty 5 a)).n = 131 := by kernel_rfl
theorem ks5 (len r ty : Nat) (l : List AV) (a : Int) : sl (outF (headR len (r + 5) l ty 5 a)) 0 = .slice 0 1 0 5 (r + 5) 1 (some (r + 5)) := by kernel_rfl
theorem ka5 (len r ty : Nat) (l : List AV) (a : Int) : sl (outF (headR len (r + 5) l ty 5 a)) 1 = .int .u8 a := by kernel_rfl
theorem k6 (len r ty : Nat) (l : List AV) (a : Int) : okR (headR len (r + 6) l ty 6 a) = true := by kernel_rfl
theorem kn6 (len r ty : Nat) (l : List AV) (a : Int) : (outF (headR len (r + 6) l ty 6 a)).n = 131 := by kernel_rfl
theorem ks6 (len r ty : Nat) (l : List AV) (a : Int) : sl (outF (headR len (r + 6) l ty 6 a)) 0 = .slice 0 1 0 6 (r + 6) 1 (some (r + 6)) := by kernel_rfl
theorem ka6 (len r ty : Nat) (l : List AV) (a : Int) : sl (outF (headR len (r + 6) l ty 6 a)) 1 = .int .u8 a := by kernel_rfl
theorem k7 (len r ty : Nat) (l : List AV) (a : Int) : okR (headR len (r + 7) l ty 7 a) = true := by kernel_rfl
theorem kn7 (len r ty : Nat) (l : List AV) (a : Int) : (outF (headR len (r + 7) l ty 7 a)).n = 131 := by kernel_rfl
theorem ks7 (len r ty : Nat) (l : List AV) (a : Int) : sl (outF (headR len (r + 7) l ty 7 a)) 0 = .slice 0 1 0 7 (r + 7) 1 (some (r + 7)) := by kernel_rfl
theorem ka7 (len r ty : Nat) (l : List AV) (a : Int) : sl (outF (headR len (r + 7) l ty 7 a)) 1 = .int .u8 a := by kernel_rfl
theorem k8 (len r ty : Nat) (l : List AV) (a : Int) : okR (headR len (r + 8) l ty 8 a) = true := by kernel_rfl
theorem kn8 (len r ty : Nat) (l : List AV) (a : Int) : (outF (headR len (r + 8) l ty 8 a)).n = 131 := by kernel_rfl
theorem ks8 (len r ty : Nat) (l : List AV) (a : Int) : sl (outF (headR len (r + 8) l ty 8 a)) 0 = .slice 0 1 0 8 (r + 8) 1 (some (r + 8)) := by kernel_rfl
theorem ka8 (len r ty : Nat) (l : List AV) (a : Int) : sl (outF (headR len (r + 8) l ty 8 a)) 1 = .int .u8 a := by kernel_rfl
end Go.Proofs.YtpgmahedcpepkaaGreatDoor.mis

namespace Go.Am
open Go Go.RowKit
variable {Λ : LB} {P : Program}
theorem goes_call_at {cx : Cx} (hcx : CxOk Λ P cx) (hd : DrawnOk Λ P cx) {f : FuncId} {fn : Func} {c : Code} {F' : Fr} {S S' : AS} {b : Bool} {vs : List AV} {args : Array Value} {ρ : Rho} {w : World} (hf : cx.fns.get f = some fn) (hb : fn.body = some c)
    (h : Goes Λ P c (initF vs fn.ntmps) S ⟨.ret, F', S'⟩) (hds : F'.ds = []) (hr : resultsV cx fn F' S' = some (.bool b)) (hR : R Λ ρ S w) (hl : LRel ρ vs args.toList) (hn : ∀ k, ¬ Wrt ρ S k) :
    Calls P f args w fun e w' => e = .returned (.bool b) ∧ Below w.heap.size w w' := by
  have hfn := hcx.fns f fn hf
  have hc := (code_ok hcx hd 0).1
  refine callsIn_wide.1 (callsIn_of_wp_marks (n := 0) hfn hb trivial ?_)
  refine h _ ρ w _ hR (initF_rel hl fn.ntmps) ?_
  intro ρ' e a' w' k0 h1 h2 h3
  cases k0
  refine leaveL_ok (F := F') hcx hc F'.ds a'.defers ρ' S' .ret _ w' h1 h2.srel h2.defers rfl ?_
  rw [hds]
  show (match resultsV cx fn F' S' with
    | some v => (.ok (v, S') [] : Res (AV × AS))
    | none => .err 2001).All _
  rw [hr]
  refine ⟨fun ρ'' e w'' j0 j1 j2 => ?_, fun y hy => by cases hy⟩
  obtain ⟨y, rfl, hy⟩ := j0
  have hy' : y = .bool b := by simpa [VRel] using hy
  have hk := h3.trans j2
  exact ⟨by rw [hy'], hk.os, hk.tape, hk.output, hk.size, fun k hk' => hk.keep k hk' (hn k)⟩
end Go.Am
namespace Go.Proofs.YtpgmahedcpepkaaGreatDoor.mis
open Go Go.RowKit Go.Am
set_option linter.unusedVariables false
set_option linter.unusedSimpArgs false

theorem symL_len : ∀ (m i : Nat) (r : List AV), (symL m i r).length = m + r.length
  | 0, i, r => by simp [symL]
  | m + 1, i, r => by simp [symL, symL_len m]; omega
theorem symL_lt : ∀ (m i : Nat) (r : List AV) (k : Nat), k < m → (symL m i r)[k]? = some (.obj .sym (i + k))
  | m + 1, i, r, 0, _ => rfl
  | m + 1, i, r, k + 1, h => by
    have := symL_lt m (i + 1) r k (by omega)
    show (symL m (i + 1) r)[k]? = _
    rw [this, show i + 1 + k = i + (k + 1) by omega]
theorem symL_ge : ∀ (m i : Nat) (r : List AV) (k : Nat), m ≤ k → (symL m i r)[k]? = r[k - m]?
  | 0, i, r, k, _ => rfl
  | m + 1, i, r, 0, h => by omega
  | m + 1, i, r, k + 1, h => by
    have := symL_ge m (i + 1) r k (by omega)
    show (symL m (i + 1) r)[k]? = _
    rw [this, show k + 1 - (m + 1) = k - m by omega]
noncomputable def symRho (p : Option Pl) (b : Nat → Nat) : Rho := fun i g => if i = 0 ∧ g = 1 then p else if 1 ≤ i ∧ i ≤ 8 ∧ g = 0 then some (symPl (b i)) else none
section
variable {Λ : LB} {ρ : Rho} {S : AS} {w : World}
theorem short_R {p : Option Pl} {b : Nat → Nat} (h : R Λ ρ S w) : R Λ (symRho p b) ⟨.leaf, 9⟩ w := by
  have none : ∀ {i o}, (T.leaf : T AObj).get i = some o → False := fun hi => by rw [get_leaf] at hi; cases hi
  refine ⟨fun i o ho => (none ho).elim, fun i o ho => (none ho).elim, fun i g hi => ?_, fun i c l t f y ho g hg => (none ho).elim, fun i o g p ho hp => (none ho).elim, fun i j o oj g gj p pj hij ho hj => (none ho).elim, h.start, fun k hk => ?_⟩
  · have hi' : 9 ≤ i := hi
    unfold symRho
    rw [if_neg (by omega), if_neg (by omega)]
  · obtain ⟨d1, d2, _⟩ := h.base k hk
    exact ⟨d1, d2, by rintro ⟨i, o, g, p, ho, _⟩; exact none ho⟩
theorem syms_R {id m ty : Nat} {cells : List AV} {v : Nat → Int} (h : R Λ ρ S w) (hid : S.h.get id = some (.row cells 1 1 true ty)) (hm : m ≤ cells.length) (h8 : m ≤ 8)
    (hv : ∀ i, i < cells.length → cells[i]? = some (.int .i64 (v i)) ∧ -9223372036854775808 ≤ v i ∧ v i < 9223372036854775808) :
    ∃ b, R Λ (symRho (ρ id 1) b) (S0 m (cells.drop m) ty) w ∧ ∀ k, ¬ Wrt (symRho (ρ id 1) b) (S0 m (cells.drop m) ty) k := by
  have hb : ∀ i, ∃ b, i < cells.length → OK.val .sym b = .int .i64 (v i) := fun i => by
    by_cases hi : i < cells.length
    · obtain ⟨_, h1, h2⟩ := hv i hi
      obtain ⟨b, hb⟩ := sym_all h1 h2
      exact ⟨b, fun _ => hb⟩
    · exact ⟨0, fun h => absurd h hi⟩
  obtain ⟨b, hb⟩ : ∃ b : Nat → Nat, ∀ i, i < cells.length → OK.val .sym (b i) = .int .i64 (v i) := ⟨fun i => (hb i).choose, fun i => (hb i).choose_spec⟩
  have only : ∀ {i o}, (S0 m (cells.drop m) ty).h.get i = some o → i = 0 ∧ o = .row (symL m 1 (cells.drop m)) 1 1 true ty := fun {i o} hi => by
    have hi' : ((T.leaf : T AObj).set 0 (.row (symL m 1 (cells.drop m)) 1 1 true ty)).get i = some o := hi
    by_cases e : i = 0
    · subst e
      rw [get_set_same] at hi'
      cases hi'
      exact ⟨rfl, rfl⟩
    · rw [get_set_ne _ _ e, get_leaf] at hi'
      cases hi'
  have r01 : ∀ b, symRho (ρ id 1) b 0 1 = ρ id 1 := fun b => if_pos ⟨rfl, rfl⟩
  have r0 : ∀ b g p, symRho (ρ id 1) b 0 g = some p → g = 1 := fun b g p hp => by
    unfold symRho at hp
    by_cases e : g = 1
    · exact e
    · rw [if_neg (by omega), if_neg (by omega)] at hp; cases hp
  have rs : ∀ b i, 1 ≤ i → i ≤ 8 → symRho (ρ id 1) b i 0 = some (symPl (b i)) := fun b i h1 h2 => by
    unfold symRho
    rw [if_neg (by omega), if_pos ⟨h1, h2, rfl⟩]
  have nw : ∀ b k, ¬ Wrt (symRho (ρ id 1) b) (S0 m (cells.drop m) ty) k := by
    rintro b k ⟨i, o, g, p, ho, hz, _⟩
    obtain ⟨_, rfl⟩ := only ho
    exact hz ⟨_, _, _, _, rfl⟩
  refine ⟨fun i => b (i - 1), ⟨fun i o ho => ?_, fun i o ho => ?_, fun i g hi => ?_, fun i c l t f y ho g hg => ?_, fun i o g p ho hp => ?_, fun i j o oj g gj p pj hij ho hj => ?_, h.start, fun k hk => ?_⟩, nw _⟩
  · obtain ⟨rfl, rfl⟩ := only ho
    obtain ⟨_, h2, _⟩ := h.objs id _ hid
    refine ⟨Nat.le_refl _, fun g g1 g2 => ?_, fun g k p q a1 a2 a3 a4 hp hq _ => ?_⟩
    · obtain rfl : g = 1 := by omega
      obtain ⟨pl, Cs, fr, a1, a2, a3, a4, a5, a6, a7, a8⟩ := h2 1 (Nat.le_refl _) (Nat.le_refl _)
      have hlen : (symL m 1 (cells.drop m)).length = cells.length := by rw [symL_len, List.length_drop]; omega
      refine ⟨pl, Cs, fr, (r01 _).trans a1, a2, a3, a4, by rw [hlen]; exact a5, fun i hi => ?_, fun e => by rw [hlen]; exact a7 e, a8⟩
      obtain ⟨x, u, b1, b2, b3, b4⟩ := a6 i hi
      obtain ⟨c1, c2, c3⟩ := hv i (by omega)
      rw [c1] at b1
      cases b1
      by_cases him : i < m
      · refine ⟨_, u, symL_lt _ _ _ _ him, b2, ?_, b4⟩
        simp only [VRel] at b3 ⊢
        refine ⟨_, rs _ _ (by omega) (by omega), ?_⟩
        rw [b3]
        show _ = OK.val .sym (b (1 + i - 1))
        rw [show 1 + i - 1 = i by omega, hb i (by omega)]
      · refine ⟨.int .i64 (v i), u, (symL_ge _ _ _ _ (by omega)).trans ?_, b2, ?_, b4⟩
        · rw [List.getElem?_drop, show m + (i - m) = i by omega, c1]
        · simp only [VRel] at b3 ⊢
          exact b3
    · have e1 := r0 _ g p hp
      have e2 := r0 _ k q hq
      subst e1; subst e2
      rw [hp] at hq; cases hq; rfl
  · obtain ⟨rfl, _⟩ := only ho
    show 0 < 9
    omega
  · have hi' : 9 ≤ i := hi
    unfold symRho
    rw [if_neg (by omega), if_neg (by omega)]
  · obtain ⟨rfl, e⟩ := only ho
    cases e
    unfold symRho
    rw [if_neg (by omega), if_neg (by omega)]
  · obtain ⟨rfl, _⟩ := only ho
    obtain rfl := r0 _ g p hp
    rw [r01] at hp
    exact h.lt id _ 1 p hid hp
  · obtain ⟨rfl, _⟩ := only ho
    obtain ⟨rfl, _⟩ := only hj
    exact absurd rfl hij
  · obtain ⟨d1, d2, _⟩ := h.base k hk
    exact ⟨d1, d2, nw _ k⟩
theorem slice_to {p : Option Pl} {b : Nat → Nat} {id len cap : Nat} {u : Value} (h : VRel ρ (.slice id 1 0 len (cap * 1) 1 (some cap)) u) : VRel (symRho (ρ id 1) b) (.slice 0 1 0 len cap 1 (some cap)) u := by
  simp only [VRel, Nat.mul_one] at h ⊢
  obtain ⟨pl, c, h1, h2⟩ := h
  exact ⟨pl, c, (if_pos ⟨rfl, rfl⟩ : symRho (ρ id 1) b 0 1 = ρ id 1).trans h1, h2⟩
end
end Go.Proofs.YtpgmahedcpepkaaGreatDoor.mis
