/-
  The abstract machine: what is known behind a piece of code.
-/
import Derived.Test.YtfempihpphbgmaaGreatAmRow
namespace Go.Am
open Go
theorem wu {x : AV} {A B A' B' : Prop} (h : iC x A B) (ha : A → A') (hb : B → B') : iC x A' B' := by
 unfold iC at h ⊢
 split at h
 ·exact ⟨fun e => ha (h.1 e), fun e => hb (h.2 e)⟩
 ·exact h.elim
theorem pG {R R' : Fr → AS → Prop} {Q Q' : Ex → Fr → AS → Prop} (hr : ∀ F S, R F S → R' F S) (hq : ∀ e F S, Q e F S → Q' e F S) : ∀ e F S, ju R Q e F S → ju R' Q' e F S := fun e F S h => by
 cases e <;> first | exact hr _ _ h | exact hq _ _ _ h
theorem tL {id : Nat} {Q Q' : Ex → Fr → AS → Prop} (hq : ∀ e F S, Q e F S → Q' e F S) : ∀ e F S, kh id Q e F S → kh id Q' e F S := fun e F S h => by
 cases e <;> first
  | exact hq _ _ _ h
  | (rename_i j
     show if j = id then Q' .normal F S else Q' (.exit j) F S
     have h' : if j = id then Q .normal F S else Q (.exit j) F S := h
     split
     ·rename_i hj; rw [if_pos hj] at h'; exact hq _ _ _ h'
     ·rename_i hj; rw [if_neg hj] at h'; exact hq _ _ _ h')
theorem BM {Q Q' : Ex → Fr → AS → Prop} (hq : ∀ e F S, Q e F S → Q' e F S) : ∀ e F S, nk Q e F S → nk Q' e F S := fun e F S h => by
 cases e <;> first | exact hq _ _ _ h | exact h.elim
theorem LoopP_mono {cx : Cx} {b : Code} {F : Fr} {S : AS} {Q Q' : Ex → Fr → AS → Prop} (h : tT cx b F S Q) (hq : ∀ e F S, Q e F S → Q' e F S) : tT cx b F S Q' := fun hc => by
 obtain ⟨n, h2⟩ := h hc;exact ⟨n, h2.mono fun o ho => ⟨hq _ _ _ ho.1, ho.2⟩⟩
theorem Br {cx : Cx} : ∀ (c : Code) {F : Fr} {S : AS} {Q Q' : Ex → Fr → AS → Prop}, jJ cx c F S Q → (∀ e F S, Q e F S → Q' e F S) → jJ cx c F S Q' := by
 intro c
 induction c with
 | skip => intro F S Q Q' h k; exact k _ _ _ h
 | region id ops d =>
  intro F S Q Q' h k
  cases d with
  | false => exact yD (show qN cx ops.toList ops.toList F S (Q .normal) from h) fun F S h => k _ _ _ h
  | true => exact tJ _ (show iR cx ops.toList F S (Q .normal) from h) fun F S h => k _ _ _ h
 | seq a b vL rE =>
  intro F S Q Q' h k;exact vL (show jJ cx a F S (ju (fun F' S' => jJ cx b F' S' Q) Q) from h) (pG (fun F S h => rE h k) k)
 | cond x a b vL rE =>
  intro F S Q Q' h k;exact wu (show iC (eval F x) (jJ cx a F S Q) (jJ cx b F S Q) from h) (fun h => vL h k) (fun h => rE h k)
 | block id b ih =>
  intro F S Q Q' h k;exact ih (show jJ cx b F S (kh id Q) from h) (tL k)
 | loop b _ =>
  intro F S Q Q' h k;exact LoopP_mono (show tT cx b F S Q from h) k
 | rangeFunc x p a b _ _ => intro F S Q Q' h k; exact (show False from h).elim
 | exit id => intro F S Q Q' h k; exact k _ _ _ h
 | scope b ih =>
  intro F S Q Q' h k;exact ih (show jJ cx b F S (nk Q) from h) (BM k)
 | label l => intro F S Q Q' h k; exact k _ _ _ h
 | goto l => intro F S Q Q' h k; exact (show False from h).elim
 | ret => intro F S Q Q' h k; exact k _ _ _ h
 | refuse w => intro F S Q Q' h k; exact (show False from h).elim
theorem iB {cx : Cx} {c : Code} {F : Fr} {S : AS} {R : Fr → AS → Prop} {Q : Ex → Fr → AS → Prop} (Mid : Fr → AS → Prop) (h1 : jJ cx c F S (ju Mid Q)) (h2 : ∀ F' S', Mid F' S' → R F' S') : jJ cx c F S (ju R Q) :=
 Br c h1 (pG h2 fun _ _ _ h => h)
theorem cut_end {cx : Cx} {c : Code} {F : Fr} {S : AS} {Q : Ex → Fr → AS → Prop} (Mid : Fr → AS → Prop) (h1 : jJ cx c F S (ju Mid Q)) (h2 : ∀ F' S', Mid F' S' → Q .normal F' S') : jJ cx c F S Q :=
 Br c h1 fun e F' S' h => by
  cases e <;> first | exact h2 _ _ h | exact h
end Go.Am
