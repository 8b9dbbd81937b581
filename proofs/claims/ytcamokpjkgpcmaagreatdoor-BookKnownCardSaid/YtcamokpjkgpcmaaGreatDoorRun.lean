/-
  'BookKnown': its pieces, joined.
-/
import Derived.Test.YtcamokpjkgpcmaaGreatDoorPcA
import Derived.Test.YtcamokpjkgpcmaaGreatDoorPcB
import Derived.Test.YtcamokpjkgpcmaaGreatDoorPcC
import Derived.Test.YtcamokpjkgpcmaaGreatDoorPcD
import Derived.Test.YtcamokpjkgpcmaaGreatDoorPcE
namespace Go.Proofs.YtcamokpjkgpcmaaGreatDoor.bookKnown
open Go Go.Am Go.RowKit st

theorem shape1 : tailC 8 body = .seq c1 tl := by kernel_rfl
theorem shape2 : tailC 1 c1 = .block 0 (.loop lp) := by kernel_rfl
theorem goes (Λ : LB) : Goes Λ Tryz.prog body (initF [] Tryz.f3.ntmps) ⟨.leaf, 0⟩ ⟨.ret, frL vsE, asL [] 11667⟩ := by
  have r0 := laid.ready laid.A0 rfl rfl
  have r1 := laid.ready aw.A1 rfl rfl
  have hcx : CxOk Λ Tryz.prog cx := cx_ok r0 (fun _ x => by cases x) (fun _ x => by cases x)
  have hcx1 : CxOk Λ Tryz.prog cxA := cx_ok r1 (aw.prims Λ) (fun _ x => by cases x)
  have hd := drawn_ok hcx r0.mixed
  have hd1 := drawn_ok hcx1 r1.mixed
  refine front_piece hcx hd p00 ?_
  rw [shape1]
  refine goes_seq (o := ⟨.normal, frL vs21, asL es21 nx21⟩) rfl ?_ (exec_piece (e := 1) hcx1 hd1 pT)
  refine front_piece hcx hd p01 ?_
  rw [shape2]
  exact goes_block (goes_loop (rounds_piece hcx hd p02 (rounds_piece hcx hd p03 (rounds_piece hcx hd p04 (rounds_piece hcx hd p05 (rounds_piece hcx hd p06 (rounds_piece hcx hd p07 (rounds_piece hcx hd p08 (rounds_piece hcx hd p09 (rounds_piece hcx hd p10 (rounds_piece hcx hd p11 (rounds_piece hcx hd p12 (rounds_piece hcx hd p13 (rounds_piece hcx hd p14 (rounds_piece hcx hd p15 (rounds_piece hcx hd p16 (rounds_piece hcx hd p17 (rounds_piece hcx hd p18 (rounds_piece hcx hd p19 (rounds_piece hcx hd p20 (rounds_piece hcx hd p21 (goesR_exit (i := 0) (exec_piece (e := 2) hcx hd pX)))))))))))))))))))))))
theorem bodyAt : Tryz.f3.body = some body := by kernel_rfl
theorem fnAt : cx.fns.get 3 = some Tryz.f3 := by kernel_rfl
theorem resAt : resultsV cx Tryz.f3 (frL vsE) (asL [] 11667) = some (.bool true) := by kernel_rfl
theorem walk (W : World) : Calls Tryz.prog 3 #[] W fun e w' => e = .returned (.bool true) ∧ Below W.heap.size W w' := by
  have r0 := laid.ready laid.A0 rfl rfl
  have hcx : CxOk ⟨W, fun _ => False⟩ Tryz.prog cx := cx_ok r0 (fun _ x => by cases x) (fun _ x => by cases x)
  exact goes_call hcx (drawn_ok hcx r0.mixed) fnAt bodyAt (goes _) rfl resAt W (Nat.le_refl _) (fun _ hb => hb.elim)
end Go.Proofs.YtcamokpjkgpcmaaGreatDoor.bookKnown
