/-
  'JudgeKeeps' behind its first part: one run.
-/
import Derived.Test.YtpgmahedcpepkaaGreatDoorPartA
namespace Go.Proofs.YtpgmahedcpepkaaGreatDoor.judgeKeeps
open Go Go.RowKit Go.Am

noncomputable abbrev C : Am.Cx := mkCx Tryz.prog ask.A2
noncomputable def rest : Code := match Tryz.f4.body with | some (.seq _ (.seq _ c)) => c | _ => .skip
noncomputable def F1 (w : Int) (n : Nat) : Fr := up (initF [.int .u8 w, .int .u64 (n : Int)] 95) (some 4) (.bool false)
noncomputable def F2 (w : Int) (n r : Nat) : Fr := up (up (up (up (F1 w n) (some 12) (.int .u8 w)) (some 13) (.int .u8 (r : Int))) (some 14) (.int .u64 (r : Int))) (some 5) (.int .u64 (r : Int))
noncomputable def okB (w : Int) (n r : Nat) : Bool := doneB C Tryz.f4 true (execK C 1000000 rest (F2 w n r) ⟨.leaf, 0⟩)
theorem run00 (w : Int) : okB w 0 0 = true := by kernel_rfl
end Go.Proofs.YtpgmahedcpepkaaGreatDoor.judgeKeeps
