/-
  Arguments from outside: constraints, predicates, attributes, events, calls.
  What the claims on the model share: the examples run whole; the program is ready for the machine.
-/
import Derived.Test.YtedonhemfhfbaaaGreatPartE
import Derived.Test.YtedonhemfhfbaaaGreatAmArgs
import Derived.Test.YtedonhemfhfbaaaGreatPartA
import Derived.Test.YtedonhemfhfbaaaGreatAmHanded
import Derived.Test.YtedonhemfhfbaaaGreatAmFast
import Derived.Test.YtedonhemfhfbaaaGreatAmPrim
import Derived.LaidLaws
import Derived.Lib.LaidTab
import Derived.WalkKit
import Derived.ProofKit
namespace Go.Proofs.YtedonhemfhfbaaaGreat.mod
open Go Go.Am
set_option linter.unusedVariables false
set_option linter.unusedSimpArgs false

noncomputable def flT (cx : Am.Cx) (t : TypeId) : Option (List TypeId) := match und cx t with | some (.struct fs) => some (fs.toList.map (·.type)) | _ => none
/-- What is asked of the types. -/
structure Facts (cx : Am.Cx) : Prop where
  un3 : und cx 3 = some (.int .i64)
  un2 : und cx 2 = some (.int .i64)
  un4 : und cx 4 = some .bool
  un5 : und cx 5 = some (.int .u8)
  un9 : und cx 9 = some .string
  un31 : und cx 31 = some (.int .u64)
  fl102 : flT cx 102 = some [3, 2, 9, 4]
  fl107 : flT cx 107 = some [9, 102]
  fl105 : flT cx 105 = some [9, 3, 102, 103]
  fl40 : flT cx 40 = some [9, 38]
  fl42 : flT cx 42 = some [31, 31, 40]
  fl46 : flT cx 46 = some [31, 31]
  fl58 : flT cx 58 = some [42, 46]
  fl30 : flT cx 30 = some [3, 3, 3]
  fl60 : flT cx 60 = some [3, 3, 3, 3, 31, 40, 24, 57, 30, 58]
  un24 : und cx 24 = some (.slice 105)
  un55 : und cx 55 = some (.slice 60)
  un22 : und cx 22 = some (.slice 40)
  un103 : und cx 103 = some (.slice 102)
  un57 : und cx 57 = some (.slice 172)
  un38 : und cx 38 = some (.slice 107)
  sz102 : szOf cx 102 = some 4
  sz105 : szOf cx 105 = some 7
  sz107 : szOf cx 107 = some 5
  sz60 : szOf cx 60 = some 18
  sz40 : szOf cx 40 = some 2
  by107 : bytesOf cx 107 = some 56
  ag55 : aggOf cx 55 = some false
  ag22 : aggOf cx 22 = some false
  ag24 : aggOf cx 24 = some false
  ag5 : aggOf cx 5 = some false
  ag4 : aggOf cx 4 = some false
theorem facts0 : Facts C0 := ⟨by kernel_rfl, by kernel_rfl, by kernel_rfl, by kernel_rfl, by kernel_rfl, by kernel_rfl, by kernel_rfl, by kernel_rfl, by kernel_rfl, by kernel_rfl, by kernel_rfl, by kernel_rfl, by kernel_rfl, by kernel_rfl, by kernel_rfl, by kernel_rfl, by kernel_rfl, by kernel_rfl, by kernel_rfl, by kernel_rfl, by kernel_rfl, by kernel_rfl, by kernel_rfl, by kernel_rfl, by kernel_rfl, by kernel_rfl, by kernel_rfl, by kernel_rfl, by kernel_rfl, by kernel_rfl, by kernel_rfl, by kernel_rfl⟩
section
variable {cx : Am.Cx}
theorem rec_of {S : AS} {m : Nat} {t : TypeId} {l : List TypeId} {x : List AV} (h : flT cx t = some l) (hx : typedA cx S (m + 1) t x) : fieldsA (szOf cx) (typedA cx S m) l x := by
  unfold flT at h
  split at h
  · rename_i fs hu
    cases h
    unfold typedA at hx
    simp only [hu] at hx
    exact hx
  · cases h
theorem chunks {α : Type} {sz : Nat} {enc : α → List AV} {G : α → Prop} : ∀ (k : Nat) (cells : List AV), cells.length = k * sz → (∀ i, i < k → ∃ a, (cells.drop (i * sz)).take sz = enc a ∧ G a) → ∃ l : List α, l.length = k ∧ cells = l.flatMap enc ∧ ∀ a, a ∈ l → G a
  | 0, cells, h, _ => by
    rw [Nat.zero_mul] at h
    exact ⟨[], rfl, by rw [List.length_eq_zero_iff.1 h]; rfl, fun a ha => by cases ha⟩
  | k + 1, cells, h, hc => by
    obtain ⟨a, e, g⟩ := hc 0 (by omega)
    rw [Nat.succ_mul] at h
    obtain ⟨l, h1, h2, h3⟩ := chunks (sz := sz) (enc := enc) (G := G) k (cells.drop sz) (by rw [List.length_drop]; omega) (fun i hi => by
      obtain ⟨b, e, g⟩ := hc (i + 1) (by omega)
      refine ⟨b, ?_, g⟩
      rw [← e, List.drop_drop]
      congr 2
      rw [Nat.succ_mul, Nat.add_comm])
    refine ⟨a :: l, by rw [List.length_cons, h1], ?_, fun b hb => ?_⟩
    · rw [List.flatMap_cons, ← h2, ← e, Nat.zero_mul, List.drop_zero, List.take_append_drop]
    · rcases List.mem_cons.1 hb with rfl | hb
      · exact g
      · exact h3 b hb
theorem sl_of {S : AS} {m : Nat} {t e sz : Nat} {avs : List AV} (hu : und cx t = some (.slice e)) (hs : szOf cx e = some sz) (h : typedA cx S (m + 1) t avs) {α : Type} {enc : α → List AV} {G : α → Prop} (hz : ∀ a, (enc a).length = sz)
    (hel : ∀ x, typedA cx S m e x → ∃ a, x = enc a ∧ G a) : ∃ (u : AV) (l : List α), avs = [u] ∧ Sl S u sz (l.flatMap enc) ∧ (∀ a, a ∈ l → G a) ∧ l.length ≤ maxLen ∧ ∀ bs, bytesOf cx e = some bs → l.length * bs ≤ reachBytes := by
  unfold typedA at h
  simp only [hu] at h
  rcases h with rfl | ⟨id, len, cap, sz', rfl, h1, h2, h3, h4, hb, h5, h6⟩
  · exact ⟨_, [], rfl, Sl.nil, fun a ha => (by cases ha), by simp, fun bs _ => by simp⟩
  · rw [hs] at h1
    cases h1
    rcases h6 with rfl | ⟨cells, ty, g1, g2, g3⟩
    · obtain rfl : len = 0 := by omega
      exact ⟨_, [], rfl, ⟨by simp [isSl, capB], rfl, by simp [sLen], h5⟩, fun a ha => (by cases ha), by simp, fun bs _ => by simp⟩
    · obtain ⟨l, k1, k2, k3⟩ := chunks cap cells g2 fun i hi => hel _ (g3 i hi)
      subst k2
      refine ⟨_, l.take len, rfl, ⟨by simp [isSl, capB, h3], ?_, by rw [fm_len hz, List.length_take]; simp only [sLen]; congr 1; omega, h5⟩, fun a ha => k3 a (List.mem_of_mem_take ha), by rw [List.length_take]; omega, fun bs hbs => Nat.le_trans (Nat.mul_le_mul_right _ (by rw [List.length_take]; omega)) (hb bs hbs)⟩
      cases len with
      | zero => simp [rdS]
      | succ len =>
        simp only [rdS, rd_at, g1, rdO_row]
        rw [if_pos ⟨Nat.le_refl _, Nat.le_refl _, by rw [Nat.zero_add]; exact Nat.mul_le_mul_right _ h3⟩, List.drop_zero, fm_take hz]
theorem ok_slice {S : AS} {m : Nat} {t e : Nat} {avs : List AV} (hu : und cx t = some (.slice e)) (h : typedA cx S (m + 1) t avs) : ∃ u, avs = [u] ∧ okV u = true := by
  unfold typedA at h
  simp only [hu] at h
  rcases h with rfl | ⟨id, len, cap, sz', rfl, _⟩
  · exact ⟨_, rfl, rfl⟩
  · exact ⟨_, rfl, rfl⟩
theorem int_of {S : AS} {m : Nat} {t : TypeId} {avs : List AV} (hu : und cx t = some (.int .i64)) (h : typedA cx S (m + 1) t avs) : ∃ n : Int, avs = [.int .i64 n] := by
  unfold typedA at h
  simp only [hu] at h
  obtain ⟨n, e, _, _⟩ := h
  exact ⟨n, e⟩
theorem u64_of {S : AS} {m : Nat} {t : TypeId} {avs : List AV} (hu : und cx t = some (.int .u64)) (h : typedA cx S (m + 1) t avs) : ∃ n : Nat, avs = [.int .u64 n] ∧ n < 18446744073709551616 := by
  unfold typedA at h
  simp only [hu] at h
  obtain ⟨n, e, k1, k2⟩ := h
  have hmax : IntKind.u64.max = 18446744073709551615 := rfl
  have hmin : IntKind.u64.min = 0 := rfl
  rw [hmin] at k1; rw [hmax] at k2
  exact ⟨n.toNat, by rw [e, Int.toNat_of_nonneg k1], by omega⟩
theorem str_of {S : AS} {m : Nat} {t : TypeId} {avs : List AV} (hu : und cx t = some .string) (h : typedA cx S (m + 1) t avs) : ∃ s : List Nat, avs = [.str s] := by
  unfold typedA at h
  simp only [hu] at h
  obtain ⟨s, e, _⟩ := h
  exact ⟨s, e⟩
theorem bool_of {S : AS} {m : Nat} {t : TypeId} {avs : List AV} (hu : und cx t = some .bool) (h : typedA cx S (m + 1) t avs) : ∃ b : Bool, avs = [.bool b] := by
  unfold typedA at h
  simp only [hu] at h
  exact h
theorem val_of (K : Facts cx) {S : AS} {m : Nat} {x : List AV} (h : typedA cx S (m + 2) 102 x) : ∃ v : Val, x = encV v := by
  obtain ⟨a, _, rfl, _, h1, b, _, rfl, _, h2, c, _, rfl, _, h3, d, _, rfl, _, h4, rfl⟩ := rec_of K.fl102 h
  obtain ⟨k, rfl⟩ := int_of K.un3 h1
  obtain ⟨n, rfl⟩ := int_of K.un2 h2
  obtain ⟨s, rfl⟩ := str_of K.un9 h3
  obtain ⟨b, rfl⟩ := bool_of K.un4 h4
  exact ⟨⟨k, n, s, b⟩, rfl⟩
theorem att_of (K : Facts cx) {S : AS} {m : Nat} {x : List AV} (h : typedA cx S (m + 3) 107 x) : ∃ a : Att, x = encA a := by
  obtain ⟨a, _, rfl, _, h1, b, _, rfl, _, h2, rfl⟩ := rec_of K.fl107 h
  obtain ⟨s, rfl⟩ := str_of K.un9 h1
  obtain ⟨v, rfl⟩ := val_of K h2
  exact ⟨⟨s, v⟩, by simp [encA]⟩
theorem con_of (K : Facts cx) {S : AS} {m : Nat} {x : List AV} (h : typedA cx S (m + 4) 105 x) : ∃ c : Con, x = encC c ∧ ConOk S c := by
  obtain ⟨a, _, rfl, _, h1, b, _, rfl, _, h2, c, _, rfl, _, h3, d, _, rfl, _, h4, rfl⟩ := rec_of K.fl105 h
  obtain ⟨s, rfl⟩ := str_of K.un9 h1
  obtain ⟨o, rfl⟩ := int_of K.un3 h2
  obtain ⟨v, rfl⟩ := val_of K h3
  obtain ⟨u, l, rfl, g1, _, g2, _⟩ := sl_of (G := fun _ => True) K.un103 K.sz102 h4 encV_len (fun x hx => by obtain ⟨v, e⟩ := val_of K hx; exact ⟨v, e, trivial⟩)
  exact ⟨⟨s, o, v, u, l⟩, by simp [encC, encV], ⟨g1, Nat.le_trans g2 (by decide)⟩⟩
theorem pred_of (K : Facts cx) {S : AS} {m : Nat} {x : List AV} (h : typedA cx S (m + 5) 24 x) : ∃ (p : AV) (ks : List Con), x = [p] ∧ PredAt S p ks := by
  obtain ⟨u, l, rfl, g1, g2, g3, _⟩ := sl_of K.un24 K.sz105 h encC_len (fun x hx => con_of K hx)
  exact ⟨u, l, rfl, g1, g2, Nat.le_trans g3 (by decide)⟩
/-- Events, whatever number of attributes they have. -/
theorem ev_of (K : Facts cx) {S : AS} {m : Nat} {x : List AV} (h : typedA cx S (m + 5) 40 x) : ∃ (s : List Nat) (u : AV) (l : List Att), x = [.str s, u] ∧ AttsAt S u l := by
  obtain ⟨a, _, rfl, _, h1, b, _, rfl, _, h2, rfl⟩ := rec_of K.fl40 h
  obtain ⟨s, rfl⟩ := str_of K.un9 h1
  obtain ⟨u, l, rfl, g1, _, _, g2⟩ := sl_of (G := fun _ => True) K.un38 K.sz107 h2 encA_len (fun x hx => by obtain ⟨v, e⟩ := att_of K hx; exact ⟨v, e, trivial⟩)
  have hb := g2 56 K.by107
  refine ⟨s, u, l, rfl, g1, ?_⟩
  have : reachBytes = 140737488351232 := rfl
  omega
end
end Go.Proofs.YtedonhemfhfbaaaGreat.mod

namespace Go.Proofs.YtedonhemfhfbaaaGreat.ready
open Go Go.Am Go.ChangeShapes Go.WideShapes Go.ChangeAt Go.RowKit Go.Proofs.YtedonhemfhfbaaaGreat.mod
set_option linter.unusedVariables false
set_option linter.unusedSimpArgs false

noncomputable abbrev P : Program := Tryz.prog
theorem own : ownKnob P.godebug = none := by kernel_rfl
theorem names : P.funcs.toList.all (fun fn => !(fn.name == "runtime.NumGoroutine")) = true := by kernel_rfl
theorem stood46 : P.stoodInHeld 46 = false ∧ P.eqGuardType P.depth 46 = false := ⟨by kernel_rfl, by kernel_rfl⟩
theorem stood102 : P.stoodInHeld 102 = false ∧ P.eqGuardType P.depth 102 = false := ⟨by kernel_rfl, by kernel_rfl⟩
theorem stood107 : P.stoodInHeld 107 = false ∧ P.eqGuardType P.depth 107 = false := ⟨by kernel_rfl, by kernel_rfl⟩
theorem stood157 : P.stoodInHeld 157 = false ∧ P.eqGuardType P.depth 157 = false := ⟨by kernel_rfl, by kernel_rfl⟩
theorem fields46 : (P.fieldsOf 46).toList.all (fun f => !(f.name == "_")) = true := by kernel_rfl
theorem fields102 : (P.fieldsOf 102).toList.all (fun f => !(f.name == "_")) = true := by kernel_rfl
theorem fields107 : (P.fieldsOf 107).toList.all (fun f => !(f.name == "_")) = true := by kernel_rfl
theorem fields157 : (P.fieldsOf 157).toList.all (fun f => !(f.name == "_")) = true := by kernel_rfl
theorem ext228 (a b : ByteArray) (w : World) : (callFunc 228 #[.string a, .string b]).run P w = .ok (.value (.int .i64 (Lib.compareBytes a.data.toList b.data.toList))) w := by
  have h : (callFunc 228 #[.string a, .string b]).run P w = ((do pure (.value (← Extern.BytealgCompare.compare #[.string a, .string b])) : Sem Next)).run P w := by kernel_rfl
  rw [h]
  simp only [Sem.run_bind, Lib.run_compareString, Result.andThen_ok, Sem.run_pure]
theorem ready (A : Am.Ask) (h1 : A.eqs = A0.eqs) (h2 : A.exts = A0.exts) : Am.Ready P A := by
  refine ⟨by kernel_rfl, fun t h => ?_, Am.enters_ok names, fun x h => ?_⟩
  · rw [h1] at h
    simp only [A0, List.mem_cons, List.not_mem_nil, or_false] at h
    rcases h with rfl | rfl | rfl | rfl
    · refine ⟨stood46.1, stood46.2, fun f hf => ?_⟩
      have := List.all_eq_true.1 fields46 f hf
      simpa using this
    · refine ⟨stood102.1, stood102.2, fun f hf => ?_⟩
      have := List.all_eq_true.1 fields102 f hf
      simpa using this
    · refine ⟨stood107.1, stood107.2, fun f hf => ?_⟩
      have := List.all_eq_true.1 fields107 f hf
      simpa using this
    · refine ⟨stood157.1, stood157.2, fun f hf => ?_⟩
      have := List.all_eq_true.1 fields157 f hf
      simpa using this
  · rw [h2] at h
    simp only [A0, List.mem_cons, List.not_mem_nil, or_false] at h
    subst h
    intro a b w
    rw [← cmp_bytes]
    exact ext228 a b w
noncomputable def N0 : Am.Ask := { eqs := [46, 102, 107, 157], exts := [(228, .cmpstr)] }
theorem answer : true = Am.saysK Tryz.prog N0 1000000 12 true := by kernel_rfl
theorem awake (W : World) : Calls Tryz.prog 12 #[] W fun e w' => e = .returned (.bool true) ∧ Below W.heap.size W w' :=
  Am.call_fast0 (ready N0 rfl rfl) (fun _ x hx => by cases hx) rfl 1000000 12 true answer W
theorem prims (Λ : LB) : ∀ x, x ∈ A0.prims → PrimOk Λ Tryz.prog x.1 x.2 := by
  intro x hx
  simp only [A0, List.mem_cons, List.not_mem_nil, or_false] at hx
  subst hx
  exact Am.boolQ_ok Tryz.func12 rfl awake
end Go.Proofs.YtedonhemfhfbaaaGreat.ready
