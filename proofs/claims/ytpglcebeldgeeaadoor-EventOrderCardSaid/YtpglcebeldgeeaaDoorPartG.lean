/-
  The chapter's rows run whole.
  Arguments from outside: values, attributes, events.
  What the claims on events share: the program is ready, the examples' answer is known.
-/
import Derived.Test.YtpglcebeldgeeaaDoorPartA
import Derived.Test.YtpglcebeldgeeaaDoorAmFast
import Derived.Test.YtpglcebeldgeeaaDoorAmBool
import Derived.Test.YtpglcebeldgeeaaDoorPartD
import Derived.Test.YtpglcebeldgeeaaDoorAmArgs
import Derived.Test.YtpglcebeldgeeaaDoorAmHanded
import Derived.Test.YtpglcebeldgeeaaDoorAmPrim
import Derived.Test.YtpglcebeldgeeaaDoorAmTop
namespace Go.Proofs.YtpglcebeldgeeaaDoor.run
open Go Go.Am
theorem wakesSays : true = Am.saysK Tryd.prog laid.A0 1000000 10 true := by kernel_rfl
end Go.Proofs.YtpglcebeldgeeaaDoor.run

namespace Go.Proofs.YtpglcebeldgeeaaDoor.val
open Go Go.Am Go.Proofs.YtpglcebeldgeeaaDoor.laid
set_option linter.unusedVariables false
set_option linter.unusedSimpArgs false

noncomputable def flT (cx : Am.Cx) (t : TypeId) : Option (List TypeId) := match und cx t with | some (.struct fs) => some (fs.toList.map (·.type)) | _ => none
section
variable {cx : Am.Cx}
theorem rec_of {S : AS} {m : Nat} {t : TypeId} {l : List TypeId} {x : List AV} (h : flT cx t = some l) (hx : typedA cx S (m + 1) t x) : fieldsA (szOf cx) (typedA cx S m) l x := by
  unfold flT at h
  split at h
  · rename_i fs hu
    cases h
    unfold typedA at hx
    simp only [hu] at hx
    exact hx
  · cases h
theorem chunks {α : Type} {sz : Nat} {enc : α → List AV} {G : α → Prop} : ∀ (k : Nat) (cells : List AV), cells.length = k * sz → (∀ i, i < k → ∃ a, (cells.drop (i * sz)).take sz = enc a ∧ G a) → ∃ l : List α, l.length = k ∧ cells = l.flatMap enc ∧ ∀ a, a ∈ l → G a
  | 0, cells, h, _ => by
    rw [Nat.zero_mul] at h
    exact ⟨[], rfl, by rw [List.length_eq_zero_iff.1 h]; rfl, fun a ha => by cases ha⟩
  | k + 1, cells, h, hc => by
    obtain ⟨a, e, g⟩ := hc 0 (by omega)
    rw [Nat.succ_mul] at h
    obtain ⟨l, h1, h2, h3⟩ := chunks (sz := sz) (enc := enc) (G := G) k (cells.drop sz) (by rw [List.length_drop]; omega) (fun i hi => by
      obtain ⟨b, e, g⟩ := hc (i + 1) (by omega)
      refine ⟨b, ?_, g⟩
      rw [← e, List.drop_drop]
      congr 2
      rw [Nat.succ_mul, Nat.add_comm])
    refine ⟨a :: l, by rw [List.length_cons, h1], ?_, fun b hb => ?_⟩
    · rw [List.flatMap_cons, ← h2, ← e, Nat.zero_mul, List.drop_zero, List.take_append_drop]
    · rcases List.mem_cons.1 hb with rfl | hb
      · exact g
      · exact h3 b hb
theorem sl_of {S : AS} {m : Nat} {t e sz : Nat} {avs : List AV} (hu : und cx t = some (.slice e)) (hs : szOf cx e = some sz) (h : typedA cx S (m + 1) t avs) {α : Type} {enc : α → List AV} {G : α → Prop} (hz : ∀ a, (enc a).length = sz)
    (hel : ∀ x, typedA cx S m e x → ∃ a, x = enc a ∧ G a) : ∃ (u : AV) (l : List α), avs = [u] ∧ Sl S u sz (l.flatMap enc) ∧ (∀ a, a ∈ l → G a) ∧ l.length ≤ maxLen ∧ ∀ bs, bytesOf cx e = some bs → l.length * bs ≤ reachBytes := by
  unfold typedA at h
  simp only [hu] at h
  rcases h with rfl | ⟨id, len, cap, sz', rfl, h1, h2, h3, h4, hb, h5, h6⟩
  · exact ⟨_, [], rfl, Sl.nil, fun a ha => (by cases ha), by simp, fun bs _ => by simp⟩
  · rw [hs] at h1
    cases h1
    rcases h6 with rfl | ⟨cells, ty, g1, g2, g3⟩
    · obtain rfl : len = 0 := by omega
      exact ⟨_, [], rfl, ⟨by simp [isSl, capB], rfl, by simp [sLen], h5⟩, fun a ha => (by cases ha), by simp, fun bs _ => by simp⟩
    · obtain ⟨l, k1, k2, k3⟩ := chunks cap cells g2 fun i hi => hel _ (g3 i hi)
      subst k2
      refine ⟨_, l.take len, rfl, ⟨by simp [isSl, capB, h3], ?_, by rw [fm_len hz, List.length_take]; simp only [sLen]; congr 1; omega, h5⟩, fun a ha => k3 a (List.mem_of_mem_take ha), by rw [List.length_take]; omega, fun bs hbs => Nat.le_trans (Nat.mul_le_mul_right _ (by rw [List.length_take]; omega)) (hb bs hbs)⟩
      cases len with
      | zero => simp [rdS]
      | succ len =>
        simp only [rdS, rd_at, g1, rdO_row]
        rw [if_pos ⟨Nat.le_refl _, Nat.le_refl _, by rw [Nat.zero_add]; exact Nat.mul_le_mul_right _ h3⟩, List.drop_zero, fm_take hz]
theorem argInt {S : AS} {m : Nat} {t : TypeId} {avs : List AV} (hu : und cx t = some (.int .i64)) (h : typedA cx S (m + 1) t avs) : ∃ n : Int, avs = [.int .i64 n] := by
  unfold typedA at h
  simp only [hu] at h
  obtain ⟨n, e, _, _⟩ := h
  exact ⟨n, e⟩
theorem argBool {S : AS} {m : Nat} {t : TypeId} {avs : List AV} (hu : und cx t = some .bool) (h : typedA cx S (m + 1) t avs) : ∃ b : Bool, avs = [.bool b] := by
  unfold typedA at h
  simp only [hu] at h
  exact h
theorem argU8 {S : AS} {m : Nat} {t : TypeId} {avs : List AV} (hu : und cx t = some (.int .u8)) (h : typedA cx S (m + 1) t avs) : ∃ n : Nat, avs = [.int .u8 n] ∧ n < 256 := by
  unfold typedA at h
  simp only [hu] at h
  obtain ⟨n, e, k1, k2⟩ := h
  have hmax : IntKind.u8.max = 255 := rfl
  have hmin : IntKind.u8.min = 0 := rfl
  rw [hmin] at k1; rw [hmax] at k2
  exact ⟨n.toNat, by rw [e, Int.toNat_of_nonneg k1], by omega⟩
theorem argI64 {S : AS} {m : Nat} {t : TypeId} {avs : List AV} (hu : und cx t = some (.int .i64)) (h : typedA cx S (m + 1) t avs) : ∃ n : Int, avs = [.int .i64 n] ∧ -9223372036854775808 ≤ n ∧ n < 9223372036854775808 := by
  unfold typedA at h
  simp only [hu] at h
  obtain ⟨n, e, k1, k2⟩ := h
  have hmax : IntKind.i64.max = 9223372036854775807 := rfl
  have hmin : IntKind.i64.min = -9223372036854775808 := rfl
  rw [hmin] at k1; rw [hmax] at k2
  exact ⟨n, e, k1, by omega⟩
theorem argStr {S : AS} {m : Nat} {t : TypeId} {avs : List AV} (hu : und cx t = some .string) (h : typedA cx S (m + 1) t avs) : ∃ s : List Nat, avs = [.str s] ∧ s.length < 140737488355328 ∧ ∀ c, c ∈ s → c < 256 := by
  unfold typedA at h
  simp only [hu] at h
  obtain ⟨s, e, k1, k2⟩ := h
  have : reachBytes = 140737488351232 := rfl
  exact ⟨s, e, by omega, k2⟩
/-- What is asked of the types. -/
structure EvFacts (cx : Am.Cx) : Prop where
  un3 : und cx 3 = some (.int .i64)
  un2 : und cx 2 = some (.int .i64)
  un4 : und cx 4 = some .bool
  un9 : und cx 9 = some .string
  fl32 : flT cx 36 = some [3, 2, 9, 4]
  fl34 : flT cx 38 = some [9, 36]
  fl24 : flT cx 24 = some [9, 22]
  un22 : und cx 22 = some (.slice 38)
  sz34 : szOf cx 38 = some 5
  by34 : bytesOf cx 38 = some 56
  ag9 : aggOf cx 9 = some false
  ag22 : aggOf cx 22 = some false
  ag24 : aggOf cx 24 = some true
theorem val_of (K : EvFacts cx) {S : AS} {m : Nat} {x : List AV} (h : typedA cx S (m + 2) 36 x) : ∃ v : ValV, x = encV v ∧ okV2 v := by
  obtain ⟨a, _, rfl, _, h1, b, _, rfl, _, h2, c, _, rfl, _, h3, d, _, rfl, _, h4, rfl⟩ := rec_of K.fl32 h
  obtain ⟨k, rfl, _⟩ := argI64 K.un3 h1
  obtain ⟨n, rfl, n1, n2⟩ := argI64 K.un2 h2
  obtain ⟨s, rfl, s1, s2⟩ := argStr K.un9 h3
  obtain ⟨b, rfl⟩ := argBool K.un4 h4
  exact ⟨⟨k, n, s, b⟩, rfl, s2, n1, n2⟩
theorem att_of (K : EvFacts cx) {S : AS} {m : Nat} {x : List AV} (h : typedA cx S (m + 3) 38 x) : ∃ a : Att, x = encA a ∧ okAtt a := by
  obtain ⟨a, _, rfl, _, h1, b, _, rfl, _, h2, rfl⟩ := rec_of K.fl34 h
  obtain ⟨s, rfl, s1, s2⟩ := argStr K.un9 h1
  obtain ⟨v, rfl, hv⟩ := val_of K h2
  exact ⟨⟨s, v⟩, by simp [encA], s2, by show s.length ≤ _; omega, hv⟩
theorem atts_of (K : EvFacts cx) {S : AS} {m : Nat} {x : List AV} (h : typedA cx S (m + 4) 22 x) : ∃ (u : AV) (l : List Att), x = [u] ∧ AttsAt S u l := by
  obtain ⟨u, l, rfl, g1, g0, _, g2⟩ := sl_of (G := okAtt) K.un22 K.sz34 h encA_len (fun x hx => att_of K hx)
  have hb := g2 56 K.by34
  refine ⟨u, l, rfl, g1, ?_, g0⟩
  have : reachBytes = 140737488351232 := rfl
  omega
theorem ev_of (K : EvFacts cx) {S : AS} {m : Nat} {x : List AV} (h : typedA cx S (m + 5) 24 x) : ∃ (s : List Nat) (u : AV) (l : List Att), x = [.str s, u] ∧ AttsAt S u l ∧ s.length < 140737488355328 ∧ ∀ c, c ∈ s → c < 256 := by
  obtain ⟨a, _, rfl, _, h1, b, _, rfl, _, h2, rfl⟩ := rec_of K.fl24 h
  obtain ⟨s, rfl, s1, s2⟩ := argStr K.un9 h1
  obtain ⟨u, l, rfl, g⟩ := atts_of K h2
  exact ⟨s, u, l, rfl, g, s1, s2⟩
theorem argsMakes (K : EvFacts cx) {S : AS} {m : Nat} {vals : List AV} (h : typedArgs cx S (m + 5) [9, 22, 24, 24, 9] vals) :
    ∃ (key ek fk name : List Nat) (u eu fu : AV) (l el fl : List Att), vals = [.str key, u, .agg [.str ek, eu], .agg [.str fk, fu], .str name] ∧ AttsAt S u l ∧ AttsAt S eu el ∧ AttsAt S fu fl ∧ name.length < 140737488355328 ∧ ∀ c, c ∈ name → c < 256 := by
  obtain ⟨a1, r1, rfl, h1, a2, r2, rfl, h2, a3, r3, rfl, h3, a4, r4, rfl, h4, a5, r5, rfl, h5, rfl⟩ := h
  obtain ⟨key, rfl, _, _⟩ := argStr K.un9 h1
  obtain ⟨u, l, rfl, hu⟩ := atts_of K h2
  obtain ⟨ek, eu, el, rfl, he, _, _⟩ := ev_of K h3
  obtain ⟨fk, fu, fl, rfl, hf, _, _⟩ := ev_of K h4
  obtain ⟨name, rfl, n1, n2⟩ := argStr K.un9 h5
  exact ⟨key, ek, fk, name, u, eu, fu, l, el, fl, by simp only [argA, K.ag9, K.ag22, K.ag24, soleA], hu, he, hf, n1, n2⟩
theorem argsTexts (K : EvFacts cx) {S : AS} {m : Nat} {vals : List AV} (h : typedArgs cx S (m + 5) [24, 9] vals) :
    ∃ (ek s : List Nat) (eu : AV) (el : List Att), vals = [.agg [.str ek, eu], .str s] ∧ AttsAt S eu el ∧ (∀ c, c ∈ ek → c < 256) ∧ s.length < 140737488355328 ∧ ∀ c, c ∈ s → c < 256 := by
  obtain ⟨a1, r1, rfl, h1, a2, r2, rfl, h2, rfl⟩ := h
  obtain ⟨ek, eu, el, rfl, he, _, hk⟩ := ev_of K h1
  obtain ⟨s, rfl, n1, n2⟩ := argStr K.un9 h2
  exact ⟨ek, s, eu, el, by simp only [argA, K.ag9, K.ag24, soleA], he, hk, n1, n2⟩
theorem argsBack (K : EvFacts cx) {S : AS} {m : Nat} {vals : List AV} (h : typedArgs cx S (m + 5) [24, 24, 9] vals) :
    ∃ (ek fk s : List Nat) (eu fu : AV) (el fl : List Att), vals = [.agg [.str ek, eu], .agg [.str fk, fu], .str s] ∧ AttsAt S eu el ∧ AttsAt S fu fl ∧ (∀ c, c ∈ ek → c < 256) ∧ (∀ c, c ∈ fk → c < 256) ∧ s.length < 140737488355328 ∧ ∀ c, c ∈ s → c < 256 := by
  obtain ⟨a1, r1, rfl, h1, a2, r2, rfl, h2, a3, r3, rfl, h3, rfl⟩ := h
  obtain ⟨ek, eu, el, rfl, he, _, hk⟩ := ev_of K h1
  obtain ⟨fk, fu, fl, rfl, hf, _, hk2⟩ := ev_of K h2
  obtain ⟨s, rfl, n1, n2⟩ := argStr K.un9 h3
  exact ⟨ek, fk, s, eu, fu, el, fl, by simp only [argA, K.ag9, K.ag24, soleA], he, hf, hk, hk2, n1, n2⟩
theorem argsOrder (K : EvFacts cx) (hu : und cx 5 = some (.int .u8)) (ha : aggOf cx 5 = some false) {S : AS} {m : Nat} {vals : List AV} (h : typedArgs cx S (m + 5) [9, 22, 9, 5] vals) :
    ∃ (key name : List Nat) (u : AV) (l : List Att) (n : Nat), vals = [.str key, u, .str name, .int .u8 n] ∧ AttsAt S u l ∧ n < 256 := by
  obtain ⟨a1, r1, rfl, h1, a2, r2, rfl, h2, a3, r3, rfl, h3, a4, r4, rfl, h4, rfl⟩ := h
  obtain ⟨key, rfl, _, _⟩ := argStr K.un9 h1
  obtain ⟨u, l, rfl, hl⟩ := atts_of K h2
  obtain ⟨name, rfl, _, _⟩ := argStr K.un9 h3
  obtain ⟨n, rfl, hn⟩ := argU8 hu h4
  exact ⟨key, name, u, l, n, by simp only [argA, K.ag9, K.ag22, ha, soleA], hl, hn⟩
end
theorem evFacts0 : EvFacts C0 := ⟨by kernel_rfl, by kernel_rfl, by kernel_rfl, by kernel_rfl, by kernel_rfl, by kernel_rfl, by kernel_rfl, by kernel_rfl, by kernel_rfl, by kernel_rfl, by kernel_rfl, by kernel_rfl, by kernel_rfl⟩
end Go.Proofs.YtpglcebeldgeeaaDoor.val

namespace Go.Proofs.YtpglcebeldgeeaaDoor.val
open Go Go.Am Go.RowKit Go.ChangeShapes Go.WideShapes Go.ChangeAt Go.Proofs.YtpglcebeldgeeaaDoor.laid
set_option linter.unusedVariables false
set_option linter.unusedSimpArgs false

theorem pWakes {W : World} {B : Nat → Prop} (hg : ∀ x, x ∈ laid.A0.globs → GlobOk W B x.1 x.2) : PrimOk ⟨W, B⟩ Tryd.prog 10 (boolQ true) := by
  intro ρ l S w args v S' hR hl hq
  cases l with
  | cons x xs => cases hq
  | nil =>
    cases hq
    simp only [LRel] at hl
    have : args = #[] := Array.ext' (by simpa using hl)
    subst this
    refine ⟨⟨_, Tryd.func10, by kernel_rfl⟩, (call_fast (Λ := ⟨W, B⟩) (laid.ready laid.A0 rfl rfl) (fun x hx => by cases hx) hg 1000000 10 true run.wakesSays w hR.start (fun b hb => ⟨(hR.base b hb).1, (hR.base b hb).2.1⟩)).mono fun e w' he => ?_⟩
    obtain ⟨h1, h2⟩ := hR.below he.2
    exact ⟨.bool true, ρ, he.1, by simp [VRel], h1, h2⟩
theorem primsA {W : World} {B : Nat → Prop} (hg : ∀ x, x ∈ laid.A0.globs → GlobOk W B x.1 x.2) : ∀ x, x ∈ A0.prims → PrimOk ⟨W, B⟩ Tryd.prog x.1 x.2 := by
  intro x hx
  simp only [A0, List.mem_cons, List.not_mem_nil, or_false] at hx
  subst hx
  exact pWakes hg
theorem globs_lt {W : World} (hg : ∀ x, x ∈ laid.A0.globs → GlobOk W laid.B x.1 x.2) : ∀ x, x ∈ laid.A0.globs → GlobOk W (fun b => b < W.heap.size) x.1 x.2 := fun x hx => let ⟨a, b⟩ := hg x hx; ⟨(laid.base_of hg _ a).1, b⟩
end Go.Proofs.YtpglcebeldgeeaaDoor.val
