/-
  The abstract machine: what is known behind a piece of code.
-/
import Derived.Test.YtgeghppdhjlbiaaGreatDoorAmRow
namespace Go.Am
open Go

theorem condP_mono {x : AV} {A B A' B' : Prop} (h : condP x A B) (ha : A → A') (hb : B → B') : condP x A' B' := by
  unfold condP at h ⊢
  split at h
  · exact ⟨fun e => ha (h.1 e), fun e => hb (h.2 e)⟩
  · exact h.elim
theorem thenP_mono {R R' : Fr → AS → Prop} {Q Q' : Ex → Fr → AS → Prop} (hr : ∀ F S, R F S → R' F S) (hq : ∀ e F S, Q e F S → Q' e F S) : ∀ e F S, thenP R Q e F S → thenP R' Q' e F S := fun e F S h => by
  cases e <;> first | exact hr _ _ h | exact hq _ _ _ h
theorem blockP_mono {id : Nat} {Q Q' : Ex → Fr → AS → Prop} (hq : ∀ e F S, Q e F S → Q' e F S) : ∀ e F S, blockP id Q e F S → blockP id Q' e F S := fun e F S h => by
  cases e <;> first
    | exact hq _ _ _ h
    | (rename_i j
       show if j = id then Q' .normal F S else Q' (.exit j) F S
       have h' : if j = id then Q .normal F S else Q (.exit j) F S := h
       split
       · rename_i hj; rw [if_pos hj] at h'; exact hq _ _ _ h'
       · rename_i hj; rw [if_neg hj] at h'; exact hq _ _ _ h')
theorem scopeP_mono {Q Q' : Ex → Fr → AS → Prop} (hq : ∀ e F S, Q e F S → Q' e F S) : ∀ e F S, scopeP Q e F S → scopeP Q' e F S := fun e F S h => by
  cases e <;> first | exact hq _ _ _ h | exact h.elim
theorem LoopP_mono {cx : Cx} {b : Code} {F : Fr} {S : AS} {Q Q' : Ex → Fr → AS → Prop} (h : LoopP cx b F S Q) (hq : ∀ e F S, Q e F S → Q' e F S) : LoopP cx b F S Q' := fun hc => by
  obtain ⟨n, h2⟩ := h hc
  exact ⟨n, h2.mono fun o ho => ⟨hq _ _ _ ho.1, ho.2⟩⟩
theorem wpP_mono {cx : Cx} : ∀ (c : Code) {F : Fr} {S : AS} {Q Q' : Ex → Fr → AS → Prop}, wpP cx c F S Q → (∀ e F S, Q e F S → Q' e F S) → wpP cx c F S Q' := by
  intro c
  induction c with
  | skip => intro F S Q Q' h k; exact k _ _ _ h
  | region id ops d =>
    intro F S Q Q' h k
    cases d with
    | false => exact opsP_mono (show opsP cx ops.toList ops.toList F S (Q .normal) from h) fun F S h => k _ _ _ h
    | true => exact drawnP_mono _ (show drawnP cx ops.toList F S (Q .normal) from h) fun F S h => k _ _ _ h
  | seq a b iha ihb =>
    intro F S Q Q' h k
    exact iha (show wpP cx a F S (thenP (fun F' S' => wpP cx b F' S' Q) Q) from h) (thenP_mono (fun F S h => ihb h k) k)
  | cond x a b iha ihb =>
    intro F S Q Q' h k
    exact condP_mono (show condP (eval F x) (wpP cx a F S Q) (wpP cx b F S Q) from h) (fun h => iha h k) (fun h => ihb h k)
  | block id b ih =>
    intro F S Q Q' h k
    exact ih (show wpP cx b F S (blockP id Q) from h) (blockP_mono k)
  | loop b _ =>
    intro F S Q Q' h k
    exact LoopP_mono (show LoopP cx b F S Q from h) k
  | rangeFunc x p a b _ _ => intro F S Q Q' h k; exact (show False from h).elim
  | exit id => intro F S Q Q' h k; exact k _ _ _ h
  | scope b ih =>
    intro F S Q Q' h k
    exact ih (show wpP cx b F S (scopeP Q) from h) (scopeP_mono k)
  | label l => intro F S Q Q' h k; exact k _ _ _ h
  | goto l => intro F S Q Q' h k; exact (show False from h).elim
  | ret => intro F S Q Q' h k; exact k _ _ _ h
  | refuse w => intro F S Q Q' h k; exact (show False from h).elim
/-- What is known between two pieces of code. -/
theorem cut_of {cx : Cx} {c : Code} {F : Fr} {S : AS} {R : Fr → AS → Prop} {Q : Ex → Fr → AS → Prop} (Mid : Fr → AS → Prop) (h1 : wpP cx c F S (thenP Mid Q)) (h2 : ∀ F' S', Mid F' S' → R F' S') : wpP cx c F S (thenP R Q) :=
  wpP_mono c h1 (thenP_mono h2 fun _ _ _ h => h)
theorem cut_end {cx : Cx} {c : Code} {F : Fr} {S : AS} {Q : Ex → Fr → AS → Prop} (Mid : Fr → AS → Prop) (h1 : wpP cx c F S (thenP Mid Q)) (h2 : ∀ F' S', Mid F' S' → Q .normal F' S') : wpP cx c F S Q :=
  wpP_mono c h1 fun e F' S' h => by
    cases e <;> first | exact h2 _ _ h | exact h
end Go.Am
