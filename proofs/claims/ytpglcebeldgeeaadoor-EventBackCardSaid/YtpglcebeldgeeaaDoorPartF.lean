/-
  The law of there and back, run.
-/
import Derived.Test.YtpglcebeldgeeaaDoorPartE
namespace Go.Proofs.YtpglcebeldgeeaaDoor.val
open Go Go.Am Go.Proofs.YtpglcebeldgeeaaDoor.laid
set_option linter.unusedVariables false
set_option linter.unusedSimpArgs false

theorem g_fn3 : C0.fns.get 3 = some Tryd.f3 := by kernel_rfl
theorem g_ok3 : codeOk C0 Tryd.f3.ntmps (Tryd.f3.body.getD .skip) = true := by kernel_rfl
theorem g_nt3 : Tryd.f3.ntmps = 106 := by kernel_rfl
theorem g_und4 : und C0 4 = some .bool := by kernel_rfl
theorem AttsAt.nil {S : AS} : AttsAt S .nils [] := ⟨Sl.nil, by simp, fun a h => by cases h⟩
theorem text_inj {ek fk a : List Nat} {el fl : List Att} (ho : okE ek el) (hp : okE fk fl) (h1 : evText ek el = some a) (h2 : evText fk fl = some a) : ek = fk ∧ el = fl := by
  have e1 := parseE_of ho h1
  have e2 := parseE_of hp h2
  rw [e1] at e2
  simp at e2
  exact e2
def bkM (S : AS) (s : List Nat) (F' : Fr) (S' : AS) : Prop := Sub S S' ∧ sl F' 2 = .str s ∧ F'.n = 106
section
variable {S : AS}
set_option maxRecDepth 20000 in
set_option maxHeartbeats 2000000 in
theorem law3 {ek fk s : List Nat} {eu fu : AV} {el fl : List Att} (he : AttsAt S eu el) (hf : AttsAt S fu fl) (hek : ∀ c, c ∈ ek → c < 256) (hfk : ∀ c, c ∈ fk → c < 256) (hs : ∀ c, c ∈ s → c < 256) (hl : s.length < 140737488355328) :
    CallW C0 3 [.agg [.str ek, eu], .agg [.str fk, fu], .str s] S fun r T => r = .bool true := by
  have ec := he.sl.cells
  have fc := hf.sl.cells
  have eok := he.sl.ok
  have fok := hf.sl.ok
  have oe : okE ek el := ⟨hek, he.ok⟩
  have of : okE fk fl := ⟨hfk, hf.ok⟩
  have hB : Sub S ⟨(S.h.set S.next (.row [.str ek, eu] 0 0 false 24)).set (S.next + 1) (.row [.str fk, fu] 0 0 false 24), S.next + 2⟩ := sub2
  obtain ⟨B0, hB0⟩ : ∃ B : AS, B = ⟨(S.h.set S.next (.row [.str ek, eu] 0 0 false 24)).set (S.next + 1) (.row [.str fk, fu] 0 0 false 24), S.next + 2⟩ := ⟨_, rfl⟩
  rw [← hB0] at hB
  have nB : B0.next = S.next + 2 := by rw [hB0]
  have b3 : B0.h.get S.next = some (.row [.str ek, eu] 0 0 false 24) := by rw [hB0]; simp
  have b4 : B0.h.get (S.next + 1) = some (.row [.str fk, fu] 0 0 false 24) := by rw [hB0]; exact get_set_same _ _ _
  have bB0 := hB0.symm
  clear hB0
  obtain ⟨r, T1, ⟨h1, hT1⟩, e1⟩ := (evText16 (key := ek) (he.sub hB) hek).ex
  have hS1 := hB.trans hT1
  have n1 := hT1.next
  have c3 := (hT1.h _ (by omega)).trans b3
  have c4 := (hT1.h _ (by omega)).trans b4
  obtain ⟨r2, T2, ⟨rfl, hT2⟩, e2⟩ := (evMay10 (key := ek) (he.sub hS1)).ex
  have hS2 := hS1.trans hT2
  have n2 := hT2.next
  have d3 := (hT2.h _ (by omega)).trans c3
  have d4 := (hT2.h _ (by omega)).trans c4
  refine enterW (pu0 _) (pr0 _ rfl) g_fn3 rfl g_ok3 (by simp) fun F hn hs' => ?_
  rw [g_nt3] at hn
  have s0 := hs' 0
  have s1 := hs' 1
  have s2 := hs' 2
  clear hs'
  simp only [List.getElem?_cons_zero, List.getElem?_cons_succ, Option.getD_some] at s0 s1 s2
  -- what is behind the first half
  cases hm : evMay ek el with
  | false =>
    have hev : evText ek el = none := by unfold evText; rw [hm]; rfl
    rw [hev] at h1
    obtain rfl : r = .tuple [.str [], .int .i64 30] := h1
    rw [hm] at e2
    simp [-wpP_cond, s0, s1, s2, ec, fc, eok, fok, okW_of eok, okW_of fok, bB0, b3, e1, c3, e2, ex0, eqS_eq, g_und4]
    rw [wpP_cond]
    simp [-wpP_cond, kcode_app]
    refine cut_of (bkM S s) ?_ ?_
    · simp
      exact ⟨hS2, by simp [s2], by simp [hn]⟩
    clear s0 s1 s2 hn F e1 e2 c3 c4 d3 d4 b3 b4 bB0
    rintro F T ⟨hT, s2, hn⟩
    obtain ⟨r, U1, ⟨q1, hU1⟩, e1⟩ := (evParse18 (S := T) hs hl).ex
    cases hp : parseE s with
    | none =>
      rw [hp] at q1
      obtain rfl : r = .tuple [.agg [.str [], .nils], .int .i64 5] := q1
      obtain ⟨P2, hP2⟩ : ∃ P : AS, P = ⟨(U1.h.set U1.next (.row [.str [], .nils] 0 0 false 24)).set U1.next (.row [.str [], .nils] 0 0 false 24), U1.next + 1⟩ := ⟨_, rfl⟩
      have p2 : P2.h.get U1.next = some (.row [.str [], .nils] 0 0 false 24) := by rw [hP2]; exact get_set_same _ _ _
      have bP2 := hP2.symm
      obtain ⟨r, U3, ⟨rfl, hU3⟩, e3⟩ := (same7 (S := P2) (key := []) (key' := []) AttsAt.nil AttsAt.nil).ex
      simp only [decide_true, Bool.and_self] at e3
      simp [kcode_app, s2, e1, ex0, bP2, p2, bld24_0, e3, dWakes]
    | some q =>
      obtain ⟨k, l⟩ := q
      have htx := parseE_some hp
      obtain ⟨hmx, _⟩ := evText_some htx
      rw [hp] at q1
      obtain ⟨vx, rfl, ax⟩ := q1
      have hkb : ∀ c, c ∈ k → c < 256 := by
        intro c hc
        rw [parseE_eq] at hp
        split at hp
        · cases hp
          unfold keyL at hc
          cases hpp : parseV (part s).1 with
          | none => rw [hpp] at hc; simp [zeroV] at hc
          | some v =>
            rw [hpp] at hc
            exact (parseV_some (fun c hc => hs c (part_mem.1 hc)) hpp).1.1 c (by simpa using hc)
        · cases hp
      obtain ⟨P2, hP2⟩ : ∃ P : AS, P = ⟨(U1.h.set U1.next (.row [.str [], .nils] 0 0 false 24)).set U1.next (.row [.str k, vx] 0 0 false 24), U1.next + 1⟩ := ⟨_, rfl⟩
      have hSP2 : Sub U1 P2 := by rw [hP2]; exact sub1s
      have nP2 : P2.next = U1.next + 1 := by rw [hP2]
      have p2 : P2.h.get U1.next = some (.row [.str k, vx] 0 0 false 24) := by rw [hP2]; exact get_set_same _ _ _
      have bP2 := hP2.symm
      obtain ⟨r, U3, ⟨h3, hU3⟩, e3⟩ := (evText16 (key := k) (ax.sub hSP2) hkb).ex
      rw [htx] at h3
      obtain rfl : r = .tuple [.str s, .int .i64 0] := h3
      have p3 := (hU3.h _ (by omega)).trans p2
      obtain ⟨r, U4, ⟨rfl, hU4⟩, e4⟩ := (evMay10 (key := k) (ax.sub (hSP2.trans hU3))).ex
      rw [hmx] at e4
      have xc := ax.sl.cells
      have xok := ax.sl.ok
      simp [kcode_app, s2, e1, ex0, bP2, xc, xok, okW_of xok, p2, e3, p3, e4, eqS_eq, dWakes]
  | true =>
    have hev : evText ek el = some (evTxt ek el) := by unfold evText; rw [hm]; rfl
    rw [hev] at h1
    obtain ⟨a, hae⟩ : ∃ a, a = evTxt ek el := ⟨_, rfl⟩
    rw [← hae] at h1 hev
    obtain rfl : r = .tuple [.str a, .int .i64 0] := h1
    rw [hm] at e2
    have hpar := parseE_of oe hev
    obtain ⟨hml, hk16, hl8⟩ := evMay_parts hm
    have hatt := may_atts hm oe
    have hal : a.length < 140737488355328 := by
      have := flatT_len (l := el) (fun x hx => (attT_len (hatt x hx).1 (hatt x hx).2.2 (hatt x hx).2.1).1)
      have hq := quote_len ek
      rw [hae]; unfold evTxt; rw [List.length_append]; omega
    have hab : ∀ c, c ∈ a → c < 256 := fun c hc => by
      rw [hae] at hc
      unfold evTxt at hc
      rcases List.mem_append.1 hc with h | h
      · exact quote_bytes hek c h
      · obtain ⟨x, hx, hcx⟩ := List.mem_flatMap.1 h
        exact (attT_len (hatt x hx).1 (hatt x hx).2.2 (hatt x hx).2.1).2 (he.ok x hx).1 c hcx
    obtain ⟨r, T3, ⟨h3, hT3⟩, e3⟩ := (evParse18 (S := T2) hab hal).ex
    rw [hpar] at h3
    obtain ⟨vx, rfl, ax⟩ := h3
    have n3 := hT3.next
    obtain ⟨P4, hP4⟩ : ∃ P : AS, P = ⟨(T3.h.set T3.next (.row [.str [], .nils] 0 0 false 24)).set T3.next (.row [.str ek, vx] 0 0 false 24), T3.next + 1⟩ := ⟨_, rfl⟩
    have hSP4 : Sub T3 P4 := by rw [hP4]; exact sub1s
    have nP4 : P4.next = T3.next + 1 := by rw [hP4]
    have p4 : P4.h.get T3.next = some (.row [.str ek, vx] 0 0 false 24) := by rw [hP4]; exact get_set_same _ _ _
    have bP4 := hP4.symm
    clear hP4
    have hS4 := (hS2.trans hT3).trans hSP4
    have f3 : P4.h.get S.next = some (.row [.str ek, eu] 0 0 false 24) := by rw [hSP4.h _ (by omega), hT3.h _ (by omega)]; exact d3
    have f4 : P4.h.get (S.next + 1) = some (.row [.str fk, fu] 0 0 false 24) := by rw [hSP4.h _ (by omega), hT3.h _ (by omega)]; exact d4
    obtain ⟨r, T5, ⟨rfl, hT5⟩, e5⟩ := (same7 (key := ek) (key' := ek) (ax.sub hSP4) (he.sub hS4)).ex
    simp only [decide_true, Bool.and_self] at e5
    have n5 := hT5.next
    have hS5 := hS4.trans hT5
    have g3 := (hT5.h _ (by omega)).trans f3
    have g4 := (hT5.h _ (by omega)).trans f4
    obtain ⟨r, T6, ⟨h6, hT6⟩, e6⟩ := (evText16 (key := fk) (hf.sub hS5) hfk).ex
    have n6 := hT6.next
    have hS6 := hS5.trans hT6
    have k3 := (hT6.h _ (by omega)).trans g3
    have k4 := (hT6.h _ (by omega)).trans g4
    obtain ⟨r7, T7, ⟨rfl, hT7⟩, e7⟩ := (evSame12 (a := ek) (b := fk) (he.sub hS6) (hf.sub hS6)).ex
    have xc := ax.sl.cells
    have xok := ax.sl.ok
    simp [-wpP_cond, s0, s1, s2, ec, fc, eok, fok, okW_of eok, okW_of fok, bB0, b3, e1, c3, e2, ex0, eqS_eq, g_und4]
    rw [wpP_cond]
    simp [-wpP_cond, kcode_app]
    refine cut_of (bkM S s) ?_ ?_
    · cases hfv : evText fk fl with
      | none =>
        rw [hfv] at h6
        obtain rfl : r = .tuple [.str [], .int .i64 30] := h6
        simp [s2, e3, ex0, bP4, xc, xok, okW_of xok, p4, f3, eok, okW_of eok, e5, g4, fok, okW_of fok, e6]
        exact ⟨hS6, by simp [s2], by simp [hn]⟩
      | some b =>
        rw [hfv] at h6
        obtain rfl : r = .tuple [.str b, .int .i64 0] := h6
        have hiff : decide (a = b) = (decide (ek = fk) && decide (el = fl)) := by
          by_cases hab' : a = b
          · subst hab'
            obtain ⟨q1, q2⟩ := text_inj oe of hev hfv
            simp [q1, q2]
          · have : ¬ (ek = fk ∧ el = fl) := fun h => hab' (by
              obtain ⟨q1, q2⟩ := h
              subst q1 q2
              rw [hev] at hfv
              exact Option.some.inj hfv)
            simp [hab']
            exact fun q1 q2 => this ⟨q1, q2⟩
        rw [← hiff] at e7
        simp [s2, e3, ex0, bP4, xc, xok, okW_of xok, p4, f3, eok, okW_of eok, e5, g4, fok, okW_of fok, e6, k3, k4, e7, eqS_eq, eqS_dec, g_und4]
        exact ⟨hS6.trans hT7, by simp [s2], by simp [hn]⟩
    clear s0 s1 s2 hn F e1 e2 c3 c4 d3 d4 b3 b4 bB0 e3 bP4 p4 f3 f4 e5 g3 g4 e6 k3 k4 e7 h6
    rintro F T ⟨hT, s2, hn⟩
    obtain ⟨r, U1, ⟨q1, hU1⟩, e1⟩ := (evParse18 (S := T) hs hl).ex
    cases hp : parseE s with
    | none =>
      rw [hp] at q1
      obtain rfl : r = .tuple [.agg [.str [], .nils], .int .i64 5] := q1
      obtain ⟨P2, hP2⟩ : ∃ P : AS, P = ⟨(U1.h.set U1.next (.row [.str [], .nils] 0 0 false 24)).set U1.next (.row [.str [], .nils] 0 0 false 24), U1.next + 1⟩ := ⟨_, rfl⟩
      have p2 : P2.h.get U1.next = some (.row [.str [], .nils] 0 0 false 24) := by rw [hP2]; exact get_set_same _ _ _
      have bP2 := hP2.symm
      obtain ⟨r, U3, ⟨rfl, hU3⟩, e3⟩ := (same7 (S := P2) (key := []) (key' := []) AttsAt.nil AttsAt.nil).ex
      simp only [decide_true, Bool.and_self] at e3
      simp [kcode_app, s2, e1, ex0, bP2, p2, bld24_0, e3, dWakes]
    | some q =>
      obtain ⟨k, l⟩ := q
      have htx := parseE_some hp
      obtain ⟨hmx, _⟩ := evText_some htx
      rw [hp] at q1
      obtain ⟨vx, rfl, ax⟩ := q1
      have hkb : ∀ c, c ∈ k → c < 256 := by
        intro c hc
        rw [parseE_eq] at hp
        split at hp
        · cases hp
          unfold keyL at hc
          cases hpp : parseV (part s).1 with
          | none => rw [hpp] at hc; simp [zeroV] at hc
          | some v =>
            rw [hpp] at hc
            exact (parseV_some (fun c hc => hs c (part_mem.1 hc)) hpp).1.1 c (by simpa using hc)
        · cases hp
      obtain ⟨P2, hP2⟩ : ∃ P : AS, P = ⟨(U1.h.set U1.next (.row [.str [], .nils] 0 0 false 24)).set U1.next (.row [.str k, vx] 0 0 false 24), U1.next + 1⟩ := ⟨_, rfl⟩
      have hSP2 : Sub U1 P2 := by rw [hP2]; exact sub1s
      have nP2 : P2.next = U1.next + 1 := by rw [hP2]
      have p2 : P2.h.get U1.next = some (.row [.str k, vx] 0 0 false 24) := by rw [hP2]; exact get_set_same _ _ _
      have bP2 := hP2.symm
      obtain ⟨r, U3, ⟨h3, hU3⟩, e3⟩ := (evText16 (key := k) (ax.sub hSP2) hkb).ex
      rw [htx] at h3
      obtain rfl : r = .tuple [.str s, .int .i64 0] := h3
      have p3 := (hU3.h _ (by omega)).trans p2
      obtain ⟨r, U4, ⟨rfl, hU4⟩, e4⟩ := (evMay10 (key := k) (ax.sub (hSP2.trans hU3))).ex
      rw [hmx] at e4
      have xc := ax.sl.cells
      have xok := ax.sl.ok
      simp [kcode_app, s2, e1, ex0, bP2, xc, xok, okW_of xok, p2, e3, p3, e4, eqS_eq, dWakes]
end
end Go.Proofs.YtpglcebeldgeeaaDoor.val
