/-
  What the tree's claims share.
-/
import Derived.Test.YtpjebmdeaieniaaTreeWaysP
import Derived.Test.YtpjebmdeaieniaaAmHanded
namespace Go.Proofs.Ytpjebmdeaieniaa.treeBase
open Go Go.Am Go.ChangeShapes Go.WideShapes Go.ChangeAt Go.RowKit Go.Proofs.Ytpjebmdeaieniaa.tree
set_option linter.unusedVariables false
set_option linter.unusedSimpArgs false

theorem own : ownKnob Try.prog.godebug = none := by kernel_rfl
theorem names : Try.prog.funcs.toList.all (fun fn => !(fn.name == "runtime.NumGoroutine")) = true := by kernel_rfl
theorem readyOf (A : Am.Ask) (h1 : A.eqs = []) (h2 : A.exts = []) : Am.Ready Try.prog A :=
  ⟨by kernel_rfl, fun _ h => (by rw [h1] at h; cases h), Am.enters_ok names, fun _ h => (by rw [h2] at h; cases h)⟩
noncomputable def N0 : Am.Ask := {}
theorem answer : true = Am.says Try.prog N0 1000000 8 true := by kernel_rfl
theorem awake (w : World) : Calls Try.prog 8 #[] w fun e w' => e = .returned (.bool true) ∧ Below w.heap.size w w' :=
  Am.call_bool (readyOf N0 rfl rfl) rfl rfl 1000000 8 true answer w
theorem prims {Λ : LB} : ∀ x, x ∈ A0.prims → PrimOk Λ Try.prog x.1 x.2 := by
  intro x hx
  simp only [A0, List.mem_cons, List.not_mem_nil, or_false] at hx
  subst hx
  exact boolQ_ok Try.func8 (by kernel_rfl) awake

theorem un40 : und C0 40 = some (.slice 5) := by kernel_rfl
theorem un5 : und C0 5 = some (.int .u8) := by kernel_rfl
theorem sz5 : szOf C0 5 = some 1 := by kernel_rfl
theorem ag40 : aggOf C0 40 = some false := by kernel_rfl
/-- A slice of bytes from outside. -/
theorem bytes_of {S : AS} {avs : List AV} (h : typedA C0 S 3 40 avs) : ∃ (u : AV) (l : List Nat), avs = [u] ∧ Sl S u 1 (bytesA l) ∧ (∀ n, n ∈ l → n < 256) := by
  unfold typedA at h
  simp only [un40] at h
  rcases h with rfl | ⟨id, len, cap, sz, rfl, h1, _, h3, h4, h5, h6⟩
  · exact ⟨_, [], rfl, Sl.nil, fun n hn => by cases hn⟩
  · rw [sz5] at h1
    cases h1
    have hm : maxLen < 4611686018427387904 ∨ True := .inr trivial
    rcases h6 with rfl | ⟨cells, ty, g1, g2, g3⟩
    · obtain rfl : len = 0 := by omega
      exact ⟨_, [], rfl, ⟨by simp [isSl, capB], rfl, by simp [sLen, bytesA], h5⟩, fun n hn => by cases hn⟩
    · have each : ∀ i, i < cap → ∃ n : Nat, cells[i]? = some (.int .u8 n) ∧ n < 256 := by
        intro i hi
        have := g3 i hi
        unfold typedA at this
        simp only [un5] at this
        obtain ⟨n, e, k1, k2⟩ := this
        have hmax : IntKind.u8.max = 255 := rfl
        have hmin : IntKind.u8.min = 0 := rfl
        rw [hmin] at k1; rw [hmax] at k2
        refine ⟨n.toNat, ?_, by omega⟩
        have h2 : cells[i]? = ((cells.drop (i * 1)).take 1)[0]? := by rw [List.getElem?_take, if_pos (by omega), List.getElem?_drop, Nat.mul_one]; rfl
        rw [h2, e]
        simp; omega
      have hl : ∃ l : List Nat, cells = bytesA l ∧ ∀ n, n ∈ l → n < 256 := by
        have gen : ∀ (cells : List AV), (∀ i, i < cells.length → ∃ n : Nat, cells[i]? = some (.int .u8 n) ∧ n < 256) → ∃ l : List Nat, cells = bytesA l ∧ ∀ n, n ∈ l → n < 256 := by
          intro cells
          induction cells with
          | nil => intro _; exact ⟨[], rfl, fun n hn => by cases hn⟩
          | cons c cs ih =>
            intro hc
            obtain ⟨n, e1, e2⟩ := hc 0 (by simp)
            obtain ⟨l, e3, e4⟩ := ih fun i hi => by
              obtain ⟨m, f1, f2⟩ := hc (i + 1) (by simpa using hi)
              exact ⟨m, by simpa using f1, f2⟩
            simp at e1
            refine ⟨n :: l, by rw [e1, e3]; rfl, fun m hm => ?_⟩
            rcases List.mem_cons.1 hm with rfl | hm
            · exact e2
            · exact e4 m hm
        exact gen cells fun i hi => each i (by omega)
      obtain ⟨l, rfl, hb⟩ := hl
      have hll : l.length = cap := by have := g2; rw [bytesA_len] at this; omega
      refine ⟨_, l.take len, rfl, ⟨by simp [isSl, capB, h3], ?_, by simp [sLen, bytesA_len]; omega, h5⟩, fun n hn => hb n (List.mem_of_mem_take hn)⟩
      · cases len with
        | zero => simp [rdS, bytesA]
        | succ len =>
          simp only [rdS, rd_at, g1, rdO_row]
          rw [if_pos ⟨Nat.le_refl _, Nat.le_refl _, by omega⟩]
          simp [bytesA]
theorem byte_of {S : AS} {avs : List AV} (h : typedA C0 S 3 5 avs) : ∃ n : Nat, avs = [.int .u8 n] ∧ n < 256 := by
  unfold typedA at h
  simp only [un5] at h
  obtain ⟨n, e, k1, k2⟩ := h
  have hmax : IntKind.u8.max = 255 := rfl
  have hmin : IntKind.u8.min = 0 := rfl
  rw [hmin] at k1; rw [hmax] at k2
  exact ⟨n.toNat, by rw [e, Int.toNat_of_nonneg k1], by omega⟩
theorem ag5' : aggOf C0 5 = some false := ag5

end Go.Proofs.Ytpjebmdeaieniaa.treeBase
