/-
  The abstract machine: texts and bytes.
-/
import Derived.Test.YtfempihpphbgmaaGreatAmWide
namespace Go.Am
open Go
set_option linter.unusedVariables false
set_option linter.unusedSimpArgs false
def sW (l : List Nat) : List AV := l.map fun n : Nat => AV.int .u8 (n : Int)
theorem Dm (l : List Nat) : (sW l).length = l.length := by simp [sW]
theorem mapL_bytA (s : List Nat) : j4 (fun n => AV.int .u8 (.ofNat n)) s = sW s := by
 induction s with
 | nil => rfl
 | cons x s ih => show AV.int .u8 (.ofNat x) :: j4 _ s = AV.int .u8 (x : Int) :: sW s; rw [ih]; rfl
noncomputable def strT (cx : Cx) (t : TypeId) : Bool := match aZ cx t with | some .string => true | _ => false
theorem strT_und {cx : Cx} {t : TypeId} (h : strT cx t = true) : aZ cx t = some .string := by
 unfold strT at h
 split at h
 ·assumption
 ·cases h
noncomputable def bytE (cx : Cx) (t : TypeId) : Option TypeId := match aZ cx t with | some (.slice e) => (match aZ cx e with | some (.int .u8) => some e | _ => none) | _ => none
theorem bytE_und {cx : Cx} {t e : TypeId} (h : bytE cx t = some e) : aZ cx t = some (.slice e) ∧ aZ cx e = some (.int .u8) := by
 unfold bytE at h
 split at h
 ·rename_i e' h1
  split at h
  ·rename_i h2; cases h; exact ⟨h1, h2⟩
  ·cases h
 ·cases h
def strOf : AV → Option (List Nat) | .str s => some s | _ => none
theorem strOf_str {s : List Nat} : strOf (.str s) = some s := rfl
section
variable {cx : Cx} {F : Fr} {S : AS} {dst : Option Tmp} {ty : TypeId} {pos : String} {af : Array Edge} {gd : Option (Nat × Bool)}
theorem aop_bytes {a b e : TypeId} {x : Operand} {v : AV} {s : List Nat} (hx : eval F x = v) (hv : strOf v = some s) (ha : strT cx a = true) (hb : bytE cx b = some e) :
  bq cx F S ⟨dst, .convert a b x, ty, pos, af, gd⟩ = .val (.slice S.next 0 0 s.length s.length 1 none) ⟨S.h.set S.next (.row (sW s) 0 0 true e), S.next + 1⟩ := by
 subst hx
 cases hx : eval F x <;> rw [hx] at hv <;> simp only [strOf] at hv <;> cases hv
 obtain ⟨h1, h2⟩ := bytE_und hb;simp only [bq, strT_und ha, h1, h2, hx, mapL_bytA]
end
end Go.Am
