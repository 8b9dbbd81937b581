/-
  The law's parents.
-/
import Derived.Test.YtpjebmdeaieniaaTreeNew
namespace Go.Proofs.Ytpjebmdeaieniaa.tree
open Go Go.Am
set_option linter.unusedVariables false
set_option linter.unusedSimpArgs false

def bytesA (l : List Nat) : List AV := l.map fun (n : Nat) => .int .u8 (n : Int)
theorem bytesA_get {l : List Nat} {k n : Nat} (h : l[k]? = some n) : (bytesA l)[k]? = some (.int .u8 n) := by simp [bytesA, h]
theorem bytesA_len (l : List Nat) : (bytesA l).length = l.length := by simp [bytesA]
/-- Each counted round among those ahead of it. -/
def parsN (l : List Nat) (k : Nat) : List Nat := (List.range k).map fun i => l.getD i 0 % (i + 1)
def parsZ (l : List Nat) (k : Nat) : List Int := -1 :: (parsN l k).map Int.ofNat
theorem parsZ_len (l : List Nat) (k : Nat) : (parsZ l k).length = k + 1 := by simp [parsZ, parsN]
theorem parsZ_succ (l : List Nat) (k : Nat) : parsZ l (k + 1) = parsZ l k ++ [((l.getD k 0 % (k + 1) : Nat) : Int)] := by simp [parsZ, parsN, List.range_succ]
theorem parsZ_valid (l : List Nat) {k : Nat} (hk : k ≤ 63) : Valid (parsZ l k) := by
  refine ⟨by rw [parsZ_len]; omega, by rw [parsZ_len]; omega, rfl, fun i hi => ?_⟩
  rw [parsZ_len] at hi
  refine ⟨l.getD i 0 % (i + 1), ?_, ?_⟩
  · simp [parsZ, parsN, show i < k by omega]
  · exact Nat.le_of_lt_succ (Nat.mod_lt (l.getD i 0) (Nat.succ_pos i))

theorem cv53 : convT C0 5 3 = some .i64 := by kernel_rfl
theorem fn21 : C0.fns.get 21 = some Try.f21 := by kernel_rfl
theorem ok21 : codeOk C0 Try.f21.ntmps (Try.f21.body.getD .skip) = true := by kernel_rfl
theorem nt21 : Try.f21.ntmps = 26 := by kernel_rfl
def parI (S : AS) (u : AV) (l : List Nat) (m : Nat) (F' : Fr) (S' : AS) : Prop := ∃ k, Sub S S' ∧ Acc S' S.next (sl F' 3) 1 3 (intZ (parsZ l k)) ∧ sl F' 7 = u ∧ sl F' 8 = .int .i64 l.length ∧ sl F' 9 = .int .i64 k ∧ k ≤ l.length ∧ k ≤ 63 ∧ m = l.length - k
theorem parents {S : AS} {u : AV} {l : List Nat} (hu : Sl S u 1 (bytesA l)) (hb : ∀ n, n ∈ l → n < 256) : CallW C0 21 [u] S fun v T => Sub S T ∧ Sl T v 1 (intZ (parsZ l (min l.length 63))) := by
  refine enterW (pu0 _) (pr0 _ rfl) fn21 rfl ok21 (by simp) fun F hn hs => ?_
  rw [nt21] at hn
  have s0 := hs 0
  clear hs
  simp only [List.getElem?_cons_zero, Option.getD_some] at s0
  have u1 := hu.sl
  have u2 : sLen u = l.length := by rw [hu.len1, bytesA_len]
  simp [s0, u1, u2, st22, st40]
  refine loopP_of (parI S u l) l.length ⟨0, ?_, .inr ⟨S.next, 1, ?_, by omega, Nat.le_refl _, ?_, ?_, by simp [intZ, parsZ, parsN]⟩, by simp, by simp, by simp, by omega, by omega, rfl⟩ ?_
  · exact (Sub.refl S).set _ _ (Nat.le_refl _) _ (Nat.le_succ _)
  · simp
  · simp
  · simp [intZ, parsZ, parsN]
  · rintro m F' S' hn' ⟨k, hsub, r3, r7, r8, r9, hk, hk2, hm⟩
    have hu' := hu.toSub hsub
    generalize hv3 : sl F' 3 = v3 at r3
    by_cases hkl : k < l.length
    · obtain ⟨b, hb'⟩ : ∃ b, l[k]? = some b := ⟨_, List.getElem?_eq_getElem hkl⟩
      have hb2 := hb b (List.mem_of_getElem? hb')
      have l1 := loadT_sl (cx := C0) (e := 5) hu' (bytesA_get hb') ag5
      by_cases h63 : k = 63
      · subst h63
        have hkz : (63 : Int) < l.length := by omega
        simp [r7, r8, r9, hkl, hkz, u1, u2, st40, l1, ag5, hv3, r3.sl.np, hsub]
        have : min l.length 63 = 63 := by omega
        rw [this]; exact r3.sl
      · have h63' : ¬ (k : Int) = 63 := by omega
        have hw : IntKind.i64.wrap ((k : Int) + 1) = ((k + 1 : Nat) : Int) := wrap_succ (by omega)
        have hw2 : IntKind.i64.wrap (b : Int) = (b : Int) := wrap_nat (by omega)
        have hz : ¬ ((k : Int) + 1 = 0) := by omega
        have htm : Int.tmod (b : Int) ((k : Int) + 1) = ((b % (k + 1) : Nat) : Int) := tmod_nat b (k + 1)
        obtain ⟨v', T, e, o1, o2, _, _, o5, _⟩ := append_acc1 (cx := C0) (ts := []) (y := .int .i64 (b % (k + 1) : Nat)) st22 rfl un22 rfl r3 hsub.next (by simp [intZ, parsZ_len, fits, nble]; omega)
        have hmod : ((b % (k + 1) : Nat) : Int) = (b : Int) % ((k : Int) + 1) := Int.natCast_emod b (k + 1)
        rw [hmod] at e
        simp [r7, r8, r9, hkl, u1, u2, st22, st40, l1, ag5, hv3, h63', cv53, hw, hw2, hz, htm, e]
        refine ⟨l.length - (k + 1), by omega, k + 1, (hsub.stay (Nat.le_refl _)).trans o2 |>.sub, ?_, by simp [r7], by simp [r8], by simp [hw], by omega, by omega, rfl⟩
        have hg : l.getD k 0 = b := by rw [List.getD_eq_getElem?_getD, hb']; rfl
        rw [parsZ_succ, hg]
        simpa [intZ] using o1
    · simp [r7, r8, r9, hkl, hv3, r3.sl.np, hsub]
      have : min l.length 63 = k := by omega
      rw [this]; exact r3.sl
end Go.Proofs.Ytpjebmdeaieniaa.tree
