/-
  'BookAgain': the law as it runs, and the row's step. The listed package-level variables are not read.
-/
import Derived.Test.YtdknlbnljfdhgaaGreatDoorPartH
import Derived.Test.YtdknlbnljfdhgaaGreatDoorPartI
import Derived.Test.YtdknlbnljfdhgaaGreatDoorAmHanded
import Derived.Test.YtdknlbnljfdhgaaGreatDoorCards
import Derived.Test.YtdknlbnljfdhgaaGreatDoorTie
import Derived.SevenTiedAt
namespace Go.Proofs.YtdknlbnljfdhgaaGreatDoor.bookAgain
open Go Go.Am Go.ChangeShapes Go.WideShapes Go.ChangeAt Go.RowKit Go.Proofs.YtdknlbnljfdhgaaGreatDoor.dk Go.Proofs.YtdknlbnljfdhgaaGreatDoor.bk
set_option linter.unusedVariables false
set_option linter.unusedSimpArgs false
set_option maxRecDepth 100000 in
theorem lifted(os:Os)(started:os.Started)(H:Type)(enc:TypeId×Value->H):
  ReturnsInHanded {} Tryz.checked os 4 .any (fun w args=>(Rows.bookAgainSpec.pre enc Tryz.prog Tryz.f4 [] false w args/\laidMetH Tryz.prog laid.L w)/\sizedMet enc Tryz.prog Tryz.f4 (OpenSpec.ofChange Rows.bookAgainSpec) false w args)
   (Rows.bookAgainSpec.post enc Tryz.prog Tryz.f4 false true false false):=by
 refine sR (C:=Tryz.checked) (X:=fun w _=>laidMetH Tryz.prog laid.L w) (fun _ _ _ hh h=>h.of_heap hh) laid.own started (by kernel_rfl) Tryz.func4
  (ChangeSpec.witness_at (enc:=enc) (C:=Tryz.checked) (os:=os) (X:=fun w _=>laidMetH Tryz.prog laid.L w) false (laid.zU os) #[.slice none 0 0,.int .u8 0] 8 rfl (by kernel_rfl) (by kernel_rfl) (by kernel_rfl) (by kernel_rfl) (by kernel_rfl) (laid.yK os _))
  (by kernel_rfl) (by kernel_rfl) (tb:=4) rfl Tryz.underlying4 rfl (fun ds hl=>?_) (fun W base args ds p hv hA hW hL=>?_)
 .rw[Tryz.params4]at hl
  match ds,hl with
  |[_,_],_=>rfl
 .have hts:Tryz.f4.params.toList=[22,5]:=by rw[Tryz.params4]
  rw[hts]at hv hA hW;exact law_args (P:=Tryz.prog) (A:=A1) (f:=4) (ts:=[22,5]) (B:=fun _=>False) (fun b hb=>hb.elim) (run.rdy A1 rfl rfl) (run.prims1 _) (fun x hx=>by cases hx) 8 (by kernel_rfl) hv hA hW (fun S aY _ ht=>lawAgain aw.wakes S aY ht)
theorem over:Rows.BookAgainSaid:=
 OpenClaim.holds_of_wide 4 Tryz.f4 rfl rfl rfl rfl rfl rfl rfl ⟨rfl,rfl,rfl,rfl,rfl⟩ rfl rfl rfl rfl rfl (by kernel_rfl) Tryz.func4 (by kernel_rfl)
  (of_decide_eq_true (by kernel_rfl)) (by unfold Func.isWrapper;first|(rw[if_pos (by decide +kernel)];kernel_rfl)|(rw[if_neg (by decide +kernel)];exact⟨rfl,rfl⟩))
  (fun os started H enc _=>lifted os started H enc)
theorem proved:Rows.BookAgainCardSaid:=
 Claim7.holds_tied_plain_at .later [] [.data,.pinned] true _ true
  over (fun _ h=>by cases h) (by kernel_rfl) (fun _ h=>by cases h) bookAgain_row_tie rfl ⟨rfl,rfl⟩ (by kernel_rfl) rfl
  (fun f fn hf EI=>by
   obtain rfl:f=4:=Option.some.inj ((show Tryz.prog.funcNamed Rows.bookAgainRow.func=some 4 by kernel_rfl).symm.trans hf) |>.symm;obtain rfl:fn=Tryz.f4:=(Option.some.inj (Tryz.func4.symm.trans EI)).symm;refine⟨by kernel_rfl,fun j t ht=>?_⟩;have jW:(Tryz.f4.params.toList.all fun t=>!Tryz.prog.wantsStandIn t)=true:=by kernel_rfl
   have hm:t∈Tryz.f4.params.toList:=by
    rw[<-Array.getElem?_toList]at ht;exact List.mem_of_getElem? ht
   have hb:Tryz.prog.wantsStandIn t=false:=by simpa using List.all_eq_true.1 jW t hm
   exact hb)
  (by kernel_rfl)
end Go.Proofs.YtdknlbnljfdhgaaGreatDoor.bookAgain
