/-
  'IndexBoth' answers true for every input of a bulk that is bounded: both together; order does not matter; no trace.
-/
import Derived.Test.YtfempihpphbgmaaGreatPartE
namespace Go.Proofs.YtfempihpphbgmaaGreat.indexBoth
open Go Go.Am Go.ChangeShapes Go.WideShapes Go.ChangeAt Go.RowKit Go.Proofs.YtfempihpphbgmaaGreat.mod Go.Proofs.YtfempihpphbgmaaGreat.idx Go.Proofs.YtfempihpphbgmaaGreat.ready
set_option linter.unusedVariables false
set_option linter.unusedSimpArgs false
theorem args4 {cx : Am.Cx} (K : Facts cx) {S : AS} {m : Nat} {vals : List AV} (h : typedArgs cx S (m + 9) [22, 25, 25, 33] vals) : ∃ (u : AV) (l : List EvA) (p : AV) (cs : List Con) (q : AV) (ds : List Con) (key : List Nat) (mu : AV) (ma : List Att), vals = [u, p, q, .agg [.str key, mu]] ∧
  Sl S u 2 (l.flatMap encEA) ∧ (∀ e, e ∈ l → AttsAt S e.u e.atts) ∧ l.length ≤ maxLen ∧ PredAt S p cs ∧ PredAt S q ds ∧ AttsAt S mu ma := by
 obtain ⟨a1, r1, rfl, h1, a2, r2, rfl, h2, a3, r3, rfl, h3, a4, r4, rfl, h4, rfl⟩ := h
 obtain ⟨u, l, rfl, g1, g2, g3⟩ := evs_of (m := m + 3) K h1
 obtain ⟨p, cs, rfl, g7⟩ := pred_of (m := m + 4) K h2
 obtain ⟨q, ds, rfl, g8⟩ := pred_of (m := m + 4) K h3
 obtain ⟨key, mu, ma, rfl, g9⟩ := ev_of (m := m + 4) K h4
 exact ⟨u, l, p, cs, q, ds, key, mu, ma, by simp only [argA, K.ag22, K.ag25, K.ag33, soleA], g1, g2, g3, g7, g8, g9⟩
theorem law (S : AS) (vals : List AV) (h : typedArgs C1 S 9 [22, 25, 25, 33] vals) (hN : ∀ (j : Nat) u, j ∈ [1, 2] → vals[j]? = some u → sLen u ≤ 1048576) : CallW C1 4 vals S fun v _ => v = .bool true := by
 obtain ⟨u, l, p, cs, q, ds, key, mu, ma, rfl, g1, g2, g3, g4, g5, g6⟩ := args4 (m := 0) facts1 h
 have h1 := hN 1 p (by decide) rfl
 have h2 := hN 2 q (by decide) rfl
 have hm : (9223372036854775807 : Nat) < 18446744073709551616 := by decide
 rw [g4.sl.len_flat zbF (by omega)] at h1
 rw [g5.sl.len_flat zbF (by omega)] at h2
 exact law4 g1 g2 g3 g4 g5 g6 h1 h2
theorem bulk_pos {H : Type} (d : DataW H) : 1 ≤ Rows.uptoBulk d := by
 cases d with
 | lit l => cases l <;> simp [Rows.uptoBulk]
 | _ => simp [Rows.uptoBulk]
theorem bulk_len {H : Type} : ∀ l : List (DataW H), l.length ≤ Rows.uptoBulkAll l
 | [] => Nat.zero_le _
 | d :: l => by
  have := bulk_len l
  have := bulk_pos d
  simp only [Rows.uptoBulkAll, List.length_cons]
  omega
theorem bulk_mem {H : Type} {d : DataW H} : ∀ {l : List (DataW H)}, d ∈ l → Rows.uptoBulk d ≤ Rows.uptoBulkAll l
 | [], h => by cases h
 | a :: l, h => by
  simp only [Rows.uptoBulkAll]
  rcases List.mem_cons.1 h with rfl | h
  ·omega
  ·have := bulk_mem h; omega
theorem bulk_lenD {H : Type} (d : DataW H) : lenD d ≤ Rows.uptoBulk d := by
 cases d <;> first | exact Nat.zero_le _ | skip
 rename_i e s
 have := bulk_len e
 simp only [lenD, Rows.uptoBulk]
 omega
theorem und25 : Tryz.prog.underlying 25 = some (.slice 54) := by kernel_rfl
set_option maxRecDepth 20000 in
theorem lifted (os : Os) (started : os.Started) (H : Type) (enc : TypeId × Value → H) :
  ReturnsInHanded {} Tryz.checked os 4 .any ((Rows.OpenSpec.upto Rows.indexBothSpec).pre6 enc Tryz.prog Tryz.f4 Rows.indexBothUptoRow.domain false) (Rows.indexBothSpec.post enc Tryz.prog Tryz.f4 false true false false) := by
 refine handed_of_law_cond (C := Tryz.checked) (s := Rows.indexBothSpec) (k := Rows.uptoSmall) own started (by kernel_rfl) Tryz.func4
  (OpenSpec.witness (enc := enc) (C := Tryz.checked) (s := Rows.OpenSpec.upto Rows.indexBothSpec) (k := Rows.uptoSmall) rfl false ⟨#[], #[.slice none 0 0, .slice none 0 0, .slice none 0 0, .agg #[.string ⟨#[]⟩, .slice none 0 0]], []⟩ 8 (by kernel_rfl) (by kernel_rfl) (by kernel_rfl) (x := ([.nil, .nil, .nil, .agg [.lit (.string []), .nil]], [], [])) (by kernel_rfl) (by kernel_rfl) (by kernel_rfl))
  (by kernel_rfl) (by kernel_rfl) (tb := 4) rfl Tryz.underlying4 rfl (fun ds hl => ?_) (fun W base args ds p hv hA hW hk => ?_)
 ·rw [Tryz.params4] at hl
  match ds, hl with
  | [_, _, _, _], _ => rfl
 ·have hts : Tryz.f4.params.toList = [22, 25, 25, 33] := by rw [Tryz.params4]
  rw [hts] at hv hA hW
  have hbulk : Rows.uptoBulkAll ds ≤ 1048576 := of_decide_eq_true hk
  refine law_args_len (P := Tryz.prog) (A := A1) (f := 4) (ts := [22, 25, 25, 33]) (B := fun _ => False) (fun b hb => hb.elim) readyA1 (primsA1 _) (fun x hx => by cases hx) (N := 1048576) 9 (by kernel_rfl) hv hA hW [1, 2] (fun j v hj hjv => ?_) (fun S vals _ ht hN => law S vals ht hN)
  have ht : ([22, 25, 25, 33] : List TypeId)[j]? = some 25 := by
   rcases List.mem_cons.1 hj with rfl | hj
   ·rfl
   ·rcases List.mem_cons.1 hj with rfl | hj
    ·rfl
    ·cases hj
  obtain ⟨d, hd, hl⟩ := trodAll_at hA j 25 54 v ht und25 hjv
  have h1 := bulk_lenD d
  have h2 := bulk_mem hd
  omega
theorem over : Rows.indexBothUptoRow.holds Tryz.pinned (Rows.OpenSpec.upto Rows.indexBothSpec) :=
 OpenClaim.holds_of_cond 4 Tryz.f4 rfl rfl rfl rfl rfl rfl rfl ⟨rfl, rfl, rfl, rfl, rfl⟩ rfl rfl rfl rfl rfl (by kernel_rfl) Tryz.func4 (by kernel_rfl)
  (of_decide_eq_true (by kernel_rfl)) (by unfold Func.isWrapper; first | (rw [if_pos (by decide +kernel)]; kernel_rfl) | (rw [if_neg (by decide +kernel)]; exact ⟨rfl, rfl⟩))
  (fun os started H enc _ F => by rw [OpenClaim.pre_of_none' rfl]; exact lifted os started H enc)
theorem proved : Rows.IndexBothUptoSaid :=
 over
end Go.Proofs.YtfempihpphbgmaaGreat.indexBoth
